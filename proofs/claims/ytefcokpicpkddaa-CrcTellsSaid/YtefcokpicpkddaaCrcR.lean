/- Arguments read: rows of bytes, tables. -/
import Derived.Test.YtefcokpicpkddaaCrcB
import Derived.Test.YtefcokpicpkddaaAxV
import Derived.DataShut
set_option linter.unusedSimpArgs false
set_option linter.unusedVariables false
namespace Go.AX
open Go Go.ChangeShapes Go.WideShapes Go.ChangeAt Go.RowKit

theorem wf_u8 {n : Int} (h : (Lit.int .u8 n).wf = true) : ∃ m : Nat, n = m ∧ m < 256 := by
  have h1 : (0 : Int) ≤ n ∧ n ≤ 255 := (Lit.wf_int_iff .u8 n).1 h
  exact ⟨n.toNat, by omega, by omega⟩
theorem wf_u32 {n : Int} (h : (Lit.int .u32 n).wf = true) : ∃ m : Nat, n = m ∧ m < 4294967296 := by
  have h1 : (0 : Int) ≤ n ∧ n ≤ 4294967295 := (Lit.wf_int_iff .u32 n).1 h
  exact ⟨n.toNat, by omega, by omega⟩

/-- Rows whose cells hold no pointers. -/
def FlatIn (W : World) (l : List (Addr × List AV)) : Prop := ∀ r ∈ l, ∀ (i : Nat) v, r.2[i]? = some v → v.sc = true ∧ ∀ (j : Inj) (D : Nat → Prop), W.cell? (r.1.add i) = some (v.con j) ∧ v.ok D
theorem FlatIn.nil {W : World} : FlatIn W [] := fun r h => by simp at h
theorem FlatIn.append {W : World} {l m : List (Addr × List AV)} (h : FlatIn W l) (k : FlatIn W m) : FlatIn W (l ++ m) := fun r hr => (List.mem_append.1 hr).elim (h r) (k r)
theorem FlatIn.rows {W : World} {l : List (Addr × List AV)} (h : FlatIn W l) : RowsIn W l := ⟨fun b a m hb i v hv => by
  obtain ⟨h1, h2⟩ := h (a, m) (List.mem_of_getElem? hb) i v hv
  exact ⟨(h2 _ (· < l.length)).1, (h2 (injOf l) _).2, h1⟩⟩
theorem FlatIn.ints {W : World} {k : IntKind} {a : Addr} {zs : List Int} (hz : ∀ i, i < zs.length → W.cell? (a.add i) = some (.int k (zs.getD i 0))) : FlatIn W [(a, zs.map fun n => AV.it k n)] := by
  intro r hr i v hv
  simp only [List.mem_singleton] at hr
  subst hr
  rw [List.getElem?_map] at hv
  obtain ⟨n, hn, rfl⟩ := Option.map_eq_some_iff.1 hv
  have hi := (List.getElem?_eq_some_iff.1 hn).1
  refine ⟨rfl, fun j D => ⟨?_, trivial⟩⟩
  rw [hz i hi]
  simp [AV.con, List.getD_eq_getElem?_getD, hn]
/-- A byte slice among the arguments: wherever its row is told. -/
theorem bytes_arg {P : Program} {W : World} {H : Type} {enc : TypeId × Value → H} {t e : TypeId} {v : Value} {d : DataW H} {ps : List MemPlace} {base : Nat} (ht : P.underlying t = some (.slice e)) (he : P.underlying e = some (.int .u8)) (hc : P.cellsOf e = 1)
    (hv : Value.okWide P W .any base t v) (h : DataW.Trod enc P W 0 (fun _ => true) true t v d ps) : ∃ (l : List (Addr × List AV)) (x : Nat → AV) (bs : List Nat), FlatIn W l ∧
      ∀ (pre post : List (Addr × List AV)), v = (x pre.length).con (injOf (pre ++ (l ++ post))) ∧ AV.ok (· < (pre ++ (l ++ post)).length) (x pre.length) ∧ Bytes (AH.of (pre ++ (l ++ post))) (x pre.length) bs := by
  obtain ⟨a, len, cap, rfl⟩ := okWide_slice ht hv
  obtain ⟨fuel, hf⟩ := h
  rcases open_ints ht he hc hf with ⟨hcs, _⟩ | ⟨x, l, c, zs, hcs, _, hl, hm, hz, _, hcell, hwz⟩
  · simp [Value.cells] at hcs
    obtain ⟨rfl, rfl, rfl⟩ := hcs
    exact ⟨[], fun _ => .sn, [], FlatIn.nil, fun pre post => ⟨rfl, trivial, .sn, fun x h => by simp at h⟩⟩
  · simp [Value.cells] at hcs
    obtain ⟨rfl, rfl, rfl⟩ := hcs
    simp only [if_true] at hz
    have hlt : ∀ n ∈ zs, ∃ m : Nat, n = m ∧ m < 256 := fun n hn => wf_u8 (hwz n hn)
    refine ⟨[(x, zs.map fun n => AV.it .u8 n)], fun b => .sl b 0 len cap, (zs.take len).map Int.toNat, FlatIn.ints hcell, fun pre post => ?_⟩
    have hget : (pre ++ ([(x, zs.map fun n => AV.it .u8 n)] ++ post))[pre.length]? = some (x, zs.map fun n => AV.it .u8 n) := by simp
    refine ⟨?_, ?_, ?_, ?_⟩
    · simp only [AV.con, injOf, hget]
      simp [CB.at, Addr.add]
    · show pre.length < _
      simp
    · have hlen : (bcs ((zs.take len).map Int.toNat)).length = len := by simp [bcs]; omega
      have hcells : ((AH.of (pre ++ ([(x, zs.map fun n => AV.it .u8 n)] ++ post))).g pre.length).cells = zs.map fun n => AV.it .u8 n := by
        simp only [AH.of, hget]
        cases zs <;> rfl
      have : SlOf (AH.of (pre ++ ([(x, zs.map fun n => AV.it .u8 n)] ++ post))) (.sl pre.length 0 (bcs ((zs.take len).map Int.toNat)).length cap) (bcs ((zs.take len).map Int.toNat)) := by
        refine .sl (by simp [AH.of]) ?_ (by rw [hcells]; simp only [List.length_map]; omega) (by omega)
        intro i v hv
        rw [hcells, Nat.zero_add]
        simp only [bcs, List.map_map, List.getElem?_map, Option.map_eq_some_iff] at hv ⊢
        obtain ⟨n, hn, rfl⟩ := hv
        rw [List.getElem?_take] at hn
        split at hn
        · obtain ⟨m, rfl, _⟩ := hlt n (List.mem_of_getElem? hn)
          exact ⟨_, hn, by simp⟩
        · cases hn
      rw [hlen] at this
      exact this
    · intro y hy
      obtain ⟨n, hn, rfl⟩ := List.mem_map.1 hy
      obtain ⟨m, rfl, hm⟩ := hlt n (List.mem_of_mem_take hn)
      simpa using hm

/-- A table among the arguments. -/
theorem tab_arg {P : Program} {W : World} {H : Type} {enc : TypeId × Value → H} {t e : TypeId} {v : Value} {d : DataW H} {ps : List MemPlace} {base : Nat} (ht : P.underlying t = some (.array 256 e)) (he : P.underlying e = some (.int .u32)) (hc : P.cellsOf e = 1) (hct : P.cellsOf t = 256)
    (hv : Value.okWide P W .any base t v) (h : DataW.Trod enc P W 0 (fun _ => true) true t v d ps) : ∃ T, Tab T ∧ ∀ j, v = (AV.ag (tabL T)).con j := by
  have hag : ∃ cs, v = .agg cs := by
    unfold Value.okWide at hv
    rw [ht] at hv
    obtain ⟨cs, rfl, _⟩ := hv
    exact ⟨cs, rfl⟩
  obtain ⟨cs, rfl⟩ := hag
  obtain ⟨fuel, hf⟩ := h
  obtain ⟨xs, m, _, _, hl, hx, hall⟩ := DataW.trod_array ht hf
  simp only [Value.cells] at hl hall
  rw [hct] at hl
  have each : ∀ i, i < 256 → ∃ n : Nat, cs.toList[i]? = some (.int .u32 n) ∧ n < 4294967296 := by
    intro i hi
    have := hall i hi
    rw [List.getElem?_eq_getElem (by omega), hc, Nat.mul_one] at this
    obtain ⟨n, h1, _, hw⟩ := DataW.trod_int he this
    obtain ⟨m', rfl, hm⟩ := wf_u32 hw
    refine ⟨m', ?_, hm⟩
    have h2 : (List.take 1 (List.drop i cs.toList))[0]? = some (.int .u32 m') := by rw [h1]; rfl
    simpa using h2
  refine ⟨fun i => match cs.toList[i]? with | some (.int _ n) => n.toNat | _ => 0, ⟨fun i hi => ?_⟩, fun j => ?_⟩
  · obtain ⟨n, h1, h2⟩ := each i hi
    simp only [h1]
    simpa using h2
  · simp only [AV.con]
    congr 1
    apply Array.ext'
    apply List.ext_getElem?
    intro i
    rw [List.toArray, conL_get]
    by_cases hi : i < 256
    · rw [tabL_at hi]
      obtain ⟨n, h1, h2⟩ := each i hi
      simp only [h1]
      simp [AV.con]
    · rw [List.getElem?_eq_none (by omega), List.getElem?_eq_none (by rw [tabL_len]; omega)]
      rfl

theorem tab_ok {T : Nat → Nat} {D : Nat → Prop} : AV.ok D (.ag (tabL T)) := ⟨okL_iff.2 fun v hv => by
  obtain ⟨i, _, rfl⟩ := List.mem_map.1 hv
  trivial, List.all_eq_true.2 fun v hv => by
  obtain ⟨i, _, rfl⟩ := List.mem_map.1 hv
  rfl⟩
theorem wf_u16 {n : Int} (h : (Lit.int .u16 n).wf = true) : ∃ m : Nat, n = m ∧ m < 65536 := by
  have h1 : (0 : Int) ≤ n ∧ n ≤ 65535 := (Lit.wf_int_iff .u16 n).1 h
  exact ⟨n.toNat, by omega, by omega⟩
/-- Two numbers among the arguments. -/
theorem two_arg {P : Program} {W : World} {H : Type} {enc : TypeId × Value → H} {t e : TypeId} {v : Value} {d : DataW H} {ps : List MemPlace} {base : Nat} (ht : P.underlying t = some (.array 2 e)) (he : P.underlying e = some (.int .u16)) (hc : P.cellsOf e = 1) (hct : P.cellsOf t = 2)
    (hv : Value.okWide P W .any base t v) (h : DataW.Trod enc P W 0 (fun _ => true) true t v d ps) : ∃ m k : Nat, m < 65536 ∧ k < 65536 ∧ v = .agg #[.int .u16 m, .int .u16 k] := by
  have hag : ∃ cs, v = .agg cs := by
    unfold Value.okWide at hv
    rw [ht] at hv
    obtain ⟨cs, rfl, _⟩ := hv
    exact ⟨cs, rfl⟩
  obtain ⟨cs, rfl⟩ := hag
  obtain ⟨fuel, hf⟩ := h
  obtain ⟨xs, m, _, _, hl, hx, hall⟩ := DataW.trod_array ht hf
  simp only [Value.cells] at hl hall
  rw [hct] at hl
  have each : ∀ i, i < 2 → ∃ n : Nat, cs.toList[i]? = some (.int .u16 n) ∧ n < 65536 := by
    intro i hi
    have := hall i hi
    rw [List.getElem?_eq_getElem (by omega), hc, Nat.mul_one] at this
    obtain ⟨n, h1, _, hw⟩ := DataW.trod_int he this
    obtain ⟨m', rfl, hm⟩ := wf_u16 hw
    refine ⟨m', ?_, hm⟩
    have h2 : (List.take 1 (List.drop i cs.toList))[0]? = some (.int .u16 m') := by rw [h1]; rfl
    simpa using h2
  obtain ⟨a, ha, ha2⟩ := each 0 (by decide)
  obtain ⟨b, hb, hb2⟩ := each 1 (by decide)
  refine ⟨a, b, ha2, hb2, ?_⟩
  congr 1
  apply Array.ext'
  generalize cs.toList = l at *
  match l, hl with
  | [x, y], _ =>
    simp at ha hb
    rw [ha, hb]

end Go.AX
