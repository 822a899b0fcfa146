/- Arguments read: rows of bytes, tables. -/
import Derived.Test.YtefcokpicpkddaaCrcB
import Derived.Test.YtefcokpicpkddaaAxV
import Derived.DataShut
set_option linter.unusedSimpArgs false
set_option linter.unusedVariables false
namespace Go.AX
open Go Go.ChangeShapes Go.WideShapes Go.ChangeAt Go.RowKit

theorem wf_u8 {n : Int} (h : (Lit.int .u8 n).wf = true) : ∃ m : Nat, n = m ∧ m < 256 := by
  have h1 : (0 : Int) ≤ n ∧ n ≤ 255 := (Lit.wf_int_iff .u8 n).1 h
  exact ⟨n.toNat, by omega, by omega⟩
theorem wf_u32 {n : Int} (h : (Lit.int .u32 n).wf = true) : ∃ m : Nat, n = m ∧ m < 4294967296 := by
  have h1 : (0 : Int) ≤ n ∧ n ≤ 4294967295 := (Lit.wf_int_iff .u32 n).1 h
  exact ⟨n.toNat, by omega, by omega⟩

theorem RowsIn.nil {W : World} : RowsIn W [] := ⟨fun b a l h => by simp at h⟩
theorem RowsIn.ints {W : World} {k : IntKind} {a : Addr} {zs : List Int} (hz : ∀ i, i < zs.length → W.cell? (a.add i) = some (.int k (zs.getD i 0))) : RowsIn W [(a, zs.map fun n => AV.it k n)] := by
  refine ⟨fun b a' l h i v hv => ?_⟩
  cases b with
  | succ b => simp at h
  | zero =>
    simp only [List.getElem?_cons_zero, Option.some.injEq, Prod.mk.injEq] at h
    obtain ⟨rfl, rfl⟩ := h
    rw [List.getElem?_map] at hv
    obtain ⟨n, hn, rfl⟩ := Option.map_eq_some_iff.1 hv
    have hi := (List.getElem?_eq_some_iff.1 hn).1
    refine ⟨?_, trivial, rfl⟩
    rw [hz i hi]
    simp [AV.con, List.getD_eq_getElem?_getD, hn]
/-- A byte slice among the arguments. -/
theorem bytes_arg {P : Program} {W : World} {H : Type} {enc : TypeId × Value → H} {t e : TypeId} {v : Value} {d : DataW H} {ps : List MemPlace} {base : Nat} (ht : P.underlying t = some (.slice e)) (he : P.underlying e = some (.int .u8)) (hc : P.cellsOf e = 1)
    (hv : Value.okWide P W .any base t v) (h : DataW.Trod enc P W 0 (fun _ => true) true t v d ps) : ∃ rows x bs, v = x.con (injOf rows) ∧ AV.ok (· < rows.length) x ∧ RowsIn W rows ∧ Bytes (AH.of rows) x bs := by
  obtain ⟨a, len, cap, rfl⟩ := okWide_slice ht hv
  obtain ⟨fuel, hf⟩ := h
  rcases open_ints ht he hc hf with ⟨hcs, _⟩ | ⟨x, l, c, zs, hcs, _, hl, hm, hz, _, hcell, hwz⟩
  · simp [Value.cells] at hcs
    obtain ⟨rfl, rfl, rfl⟩ := hcs
    exact ⟨[], .sn, [], rfl, trivial, RowsIn.nil, .sn, fun x h => by simp at h⟩
  · simp [Value.cells] at hcs
    obtain ⟨rfl, rfl, rfl⟩ := hcs
    simp only [if_true] at hz
    have hlt : ∀ n ∈ zs, ∃ m : Nat, n = m ∧ m < 256 := fun n hn => wf_u8 (hwz n hn)
    refine ⟨[(x, zs.map fun n => AV.it .u8 n)], .sl 0 0 len cap, (zs.take len).map Int.toNat, ?_, Nat.zero_lt_one, RowsIn.ints hcell, ?_, ?_⟩
    · simp [AV.con, injOf, CB.at, Addr.add]
    · have hlen : (bcs ((zs.take len).map Int.toNat)).length = len := by simp [bcs]; omega
      have : SlOf (AH.of [(x, zs.map fun n => AV.it .u8 n)]) (.sl 0 0 (bcs ((zs.take len).map Int.toNat)).length cap) (bcs ((zs.take len).map Int.toNat)) := by
        refine .sl (Nat.zero_lt_one) ?_ (by omega)
        intro i v hv
        have hcells : ((AH.of [(x, zs.map fun n => AV.it .u8 n)]).g 0).cells = zs.map fun n => AV.it .u8 n := by
          show (blkOf _).cells = _
          cases zs <;> rfl
        rw [hcells, Nat.zero_add]
        simp only [bcs, List.map_map, List.getElem?_map, Option.map_eq_some_iff] at hv ⊢
        obtain ⟨n, hn, rfl⟩ := hv
        rw [List.getElem?_take] at hn
        split at hn
        · obtain ⟨m, rfl, _⟩ := hlt n (List.mem_of_getElem? hn)
          exact ⟨_, hn, by simp⟩
        · cases hn
      rw [hlen] at this
      exact this
    · intro y hy
      obtain ⟨n, hn, rfl⟩ := List.mem_map.1 hy
      obtain ⟨m, rfl, hm⟩ := hlt n (List.mem_of_mem_take hn)
      simpa using hm

/-- A table among the arguments. -/
theorem tab_arg {P : Program} {W : World} {H : Type} {enc : TypeId × Value → H} {t e : TypeId} {v : Value} {d : DataW H} {ps : List MemPlace} {base : Nat} (ht : P.underlying t = some (.array 256 e)) (he : P.underlying e = some (.int .u32)) (hc : P.cellsOf e = 1) (hct : P.cellsOf t = 256)
    (hv : Value.okWide P W .any base t v) (h : DataW.Trod enc P W 0 (fun _ => true) true t v d ps) : ∃ T, Tab T ∧ ∀ j, v = (AV.ag (tabL T)).con j := by
  have hag : ∃ cs, v = .agg cs := by
    unfold Value.okWide at hv
    rw [ht] at hv
    obtain ⟨cs, rfl, _⟩ := hv
    exact ⟨cs, rfl⟩
  obtain ⟨cs, rfl⟩ := hag
  obtain ⟨fuel, hf⟩ := h
  obtain ⟨xs, m, _, _, hl, hx, hall⟩ := DataW.trod_array ht hf
  simp only [Value.cells] at hl hall
  rw [hct] at hl
  have each : ∀ i, i < 256 → ∃ n : Nat, cs.toList[i]? = some (.int .u32 n) ∧ n < 4294967296 := by
    intro i hi
    have := hall i hi
    rw [List.getElem?_eq_getElem (by omega), hc, Nat.mul_one] at this
    obtain ⟨n, h1, _, hw⟩ := DataW.trod_int he this
    obtain ⟨m', rfl, hm⟩ := wf_u32 hw
    refine ⟨m', ?_, hm⟩
    have h2 : (List.take 1 (List.drop i cs.toList))[0]? = some (.int .u32 m') := by rw [h1]; rfl
    simpa using h2
  refine ⟨fun i => match cs.toList[i]? with | some (.int _ n) => n.toNat | _ => 0, ⟨fun i hi => ?_⟩, fun j => ?_⟩
  · obtain ⟨n, h1, h2⟩ := each i hi
    simp only [h1]
    simpa using h2
  · simp only [AV.con]
    congr 1
    apply Array.ext'
    apply List.ext_getElem?
    intro i
    rw [List.toArray, conL_get]
    by_cases hi : i < 256
    · rw [tabL_at hi]
      obtain ⟨n, h1, h2⟩ := each i hi
      simp only [h1]
      simp [AV.con]
    · rw [List.getElem?_eq_none (by omega), List.getElem?_eq_none (by rw [tabL_len]; omega)]
      rfl

end Go.AX
