/- AY, part P: arguments of numbers, truths, structs, arrays and slices, opened; a law's row out of its contract. -/
import Derived.Test.YtjmknbbipadjbaaAyO
import Derived.Test.YtjmknbbipadjbaaAxV
import Derived.DataShut
import Derived.OpenShut
import Derived.Deep.Slices
import Derived.DataElems
set_option linter.unusedSimpArgs false
set_option linter.unusedVariables false
namespace Go.AX
open Go Go.ChangeShapes Go.WideShapes Go.ChangeAt Go.RowKit

/-- What a cell holds. -/
inductive CT where
  | b
  | i (k : IntKind)
  | sl (es : List CT)

mutual
def hasC : CT → PV → Prop
  | .b, v => ∃ x, v = .bo x
  | .i k, v => ∃ n, v = .it k n ∧ (Lit.int k n).wf = true
  | .sl es, v => ∃ l, v = .vs 1 es.length l ∧ l.length ≤ maxLen ∧ ∀ x ∈ l, ∃ cs, x = elemOf cs ∧ hasL es cs
def hasL : List CT → List PV → Prop
  | [], l => l = []
  | c :: r, l => ∃ v l', l = v :: l' ∧ hasC c v ∧ hasL r l'
end
theorem hasL_len : ∀ {ts : List CT} {l : List PV}, hasL ts l → l.length = ts.length
  | [], l, h => by simp only [hasL] at h; subst h; rfl
  | c :: r, l, h => by
    simp only [hasL] at h
    obtain ⟨v, l', rfl, _, h⟩ := h
    simp [hasL_len h]
theorem hasL_app : ∀ {ts us : List CT} {l m : List PV}, hasL ts l → hasL us m → hasL (ts ++ us) (l ++ m)
  | [], us, l, m, h, h' => by simp only [hasL] at h; subst h; exact h'
  | c :: r, us, l, m, h, h' => by
    simp only [hasL] at h
    obtain ⟨v, l', rfl, h0, h⟩ := h
    simp only [List.cons_append, hasL]
    exact ⟨v, _, rfl, h0, hasL_app h h'⟩
theorem hasL_split : ∀ {ts us : List CT} {l : List PV}, hasL (ts ++ us) l → hasL ts (l.take ts.length) ∧ hasL us (l.drop ts.length)
  | [], us, l, h => by simpa [hasL] using h
  | c :: r, us, l, h => by
    simp only [List.cons_append, hasL] at h
    obtain ⟨v, l', rfl, h0, h⟩ := h
    obtain ⟨h1, h2⟩ := hasL_split h
    simp only [List.length_cons, List.take_succ_cons, List.drop_succ_cons, hasL]
    exact ⟨⟨v, _, rfl, h0, h1⟩, h2⟩
theorem hasC_sca : ∀ {c : CT} {v : PV}, hasC c v → v.sca = true
  | .b, v, h => by simp only [hasC] at h; obtain ⟨x, rfl⟩ := h; rfl
  | .i k, v, h => by simp only [hasC] at h; obtain ⟨x, rfl, _⟩ := h; rfl
  | .sl es, v, h => by simp only [hasC] at h; obtain ⟨l, rfl, _⟩ := h; rfl
theorem hasL_sca : ∀ {ts : List CT} {l : List PV}, hasL ts l → PV.scaL l = true
  | [], l, h => by simp only [hasL] at h; subst h; rfl
  | c :: r, l, h => by
    simp only [hasL] at h
    obtain ⟨v, l', rfl, h0, h⟩ := h
    have := hasL_sca h
    simp only [PV.scaL, List.all_cons, Bool.and_eq_true] at this ⊢
    exact ⟨hasC_sca h0, this⟩
theorem hasL_chunk {es : List CT} : ∀ {n : Nat} {l : List PV}, hasL (List.replicate n es).flatten l → ∀ x ∈ chunk n es.length l, ∃ cs, x = elemOf cs ∧ hasL es cs
  | 0, l, h, x, hx => by simp [chunk] at hx
  | n + 1, l, h, x, hx => by
    rw [List.replicate_succ, List.flatten_cons] at h
    obtain ⟨h1, h2⟩ := hasL_split h
    simp only [chunk, List.mem_cons] at hx
    rcases hx with rfl | hx
    · exact ⟨_, rfl, h1⟩
    · exact hasL_chunk h2 x hx

/-! ### Rows, wherever they are told -/
structure OpAt (W : World) (s : Bool) (cs : List Value) (pvs : List PV) (full rows : List (Addr × List AV)) (avs : List AV) : Prop where
  at_ : ∀ r ∈ rows, ∀ (i : Nat) v, r.2[i]? = some v → W.cell? (r.1.add i) = some (v.con (injOf full)) ∧ v.ok (· < full.length) ∧ v.sc = true
  cs : cs = AV.conL (injOf full) avs
  ok : AV.okL (· < full.length) avs
  sc : s = true → AV.scL avs = true
  rc : RcL (· < full.length) (AH.of full) pvs avs
def Opn (W : World) (s : Bool) (cs : List Value) (pvs : List PV) : Prop :=
  ∃ (k : Nat) (rows : Nat → List (Addr × List AV)) (avs : Nat → List AV), (∀ b, (rows b).length = k) ∧ ∀ pre post, OpAt W s cs pvs (pre ++ (rows pre.length ++ post)) (rows pre.length) (avs pre.length)
section
variable {W : World} {s : Bool}
theorem Opn.nil : Opn W s [] [] := ⟨0, fun _ => [], fun _ => [], fun _ => rfl, fun pre post => ⟨fun r h => by simp at h, rfl, trivial, fun _ => rfl, rfl⟩⟩
theorem Opn.app {c d : List Value} {p q : List PV} (h : Opn W s c p) (h' : Opn W s d q) : Opn W s (c ++ d) (p ++ q) := by
  obtain ⟨k, r, a, hk, h⟩ := h
  obtain ⟨k', r', a', hk', h'⟩ := h'
  refine ⟨k + k', fun b => r b ++ r' (b + k), fun b => a b ++ a' (b + k), fun b => by simp [hk, hk'], fun pre post => ?_⟩
  have e1 := h pre (r' (pre.length + k) ++ post)
  have e2 := h' (pre ++ r pre.length) post
  have hl : (pre ++ r pre.length).length = pre.length + k := by simp [hk]
  rw [hl] at e2
  have ef : pre ++ r pre.length ++ (r' (pre.length + k) ++ post) = pre ++ (r pre.length ++ r' (pre.length + k) ++ post) := by simp
  have ef' : pre ++ (r pre.length ++ (r' (pre.length + k) ++ post)) = pre ++ (r pre.length ++ r' (pre.length + k) ++ post) := by simp
  rw [ef] at e2
  rw [ef'] at e1
  refine ⟨fun x hx => (List.mem_append.1 hx).elim (e1.at_ x) (e2.at_ x), ?_, ?_, fun hs => ?_, RcL.app e1.rc e2.rc⟩
  · rw [conL_append, ← e1.cs, ← e2.cs]
  · rw [okL_iff] at *
    intro v hv
    exact (List.mem_append.1 hv).elim (okL_iff.1 e1.ok v) (okL_iff.1 e2.ok v)
  · have := e1.sc hs
    have := e2.sc hs
    simp_all [AV.scL]
theorem Opn.sca {v : Value} {p : PV} {a : AV} (hv : ∀ j, v = a.con j) (ho : ∀ D, a.ok D) (hs : a.sc = true) (hr : ∀ F H, Rc F H p a) : Opn W s [v] [p] :=
  ⟨0, fun _ => [], fun _ => [a], fun _ => rfl, fun pre post => ⟨fun r h => by simp at h, by simp only [AV.conL]; rw [← hv], ⟨ho _, trivial⟩, fun _ => by simp [AV.scL, hs], ⟨a, [], rfl, hr _ _, rfl⟩⟩⟩
theorem Opn.ag {cs : List Value} {p : List PV} (h : Opn W true cs p) : Opn W false [.agg cs.toArray] [.ag p] := by
  obtain ⟨k, r, a, hk, h⟩ := h
  refine ⟨k, r, fun b => [.ag (a b)], hk, fun pre post => ?_⟩
  have e := h pre post
  exact ⟨e.at_, by simp only [AV.conL, AV.con]; rw [← e.cs], ⟨⟨e.ok, e.sc rfl⟩, trivial⟩, fun h => by simp at h, ⟨_, [], rfl, ⟨_, rfl, e.rc⟩, rfl⟩⟩
theorem Opn.weak {cs : List Value} {p : List PV} (h : Opn W true cs p) : Opn W s cs p := by
  obtain ⟨k, r, a, hk, h⟩ := h
  exact ⟨k, r, a, hk, fun pre post => let e := h pre post; ⟨e.at_, e.cs, e.ok, fun _ => e.sc rfl, e.rc⟩⟩
theorem Rc_sn {F : Nat → Prop} {H : AH} {n : Nat} : Rc F H (.vs 1 n []) .sn := by
  refine ⟨⟨[], .sn, fun b h => by simp [AV.bk] at h, rfl⟩, fun _ b o q n e h => by simp at h, fun h => by omega⟩
theorem Opn.slice {a : Addr} {len cap es : Nat} {ccs : List Value} {p : List PV} (h : Opn W true ccs p) (hc : ∀ i, i < ccs.length → W.cell? (a.add i) = ccs[i]?) (hs : PV.scaL p = true) (hl : p.length = len * es) (hcap : len ≤ cap) :
    Opn W s [.slice (some a) len cap] [.vs 1 es (chunk len es p)] := by
  obtain ⟨k, r, av, hk, h⟩ := h
  refine ⟨k + 1, fun b => (a, av (b + 1)) :: r (b + 1), fun b => [.sl b 0 len cap], fun b => by simp [hk], fun pre post => ?_⟩
  have e := h (pre ++ [(a, av (pre.length + 1))]) post
  have hpl : (pre ++ [(a, av (pre.length + 1))]).length = pre.length + 1 := by simp
  rw [hpl] at e
  have ef : pre ++ [(a, av (pre.length + 1))] ++ (r (pre.length + 1) ++ post) = pre ++ ((a, av (pre.length + 1)) :: r (pre.length + 1) ++ post) := by simp
  rw [ef] at e
  generalize hfull : pre ++ ((a, av (pre.length + 1)) :: r (pre.length + 1) ++ post) = full at *
  have hget : full[pre.length]? = some (a, av (pre.length + 1)) := by rw [← hfull]; simp
  have hlt : pre.length < full.length := (List.getElem?_eq_some_iff.1 hget).1
  have hal : (av (pre.length + 1)).length = len * es := by rw [← hl]; exact RcL.len e.rc
  have hcells : ((AH.of full).g pre.length).cells = av (pre.length + 1) := by
    simp only [AH.of, hget]
    cases av (pre.length + 1) <;> rfl
  refine ⟨fun x hx => ?_, ?_, ⟨hlt, trivial⟩, fun _ => rfl, ?_⟩
  · rcases List.mem_cons.1 hx with rfl | hx
    · intro i v hv
      have hi : i < (av (pre.length + 1)).length := (List.getElem?_eq_some_iff.1 hv).1
      refine ⟨?_, okL_iff.1 e.ok v (List.mem_of_getElem? hv), ?_⟩
      · show W.cell? (a.add i) = _
        rw [hc i (by rw [e.cs, conL_length]; exact hi), e.cs, conL_get, hv]
        rfl
      · have := e.sc rfl
        simp only [AV.scL, List.all_eq_true] at this
        exact this v (List.mem_of_getElem? hv)
    · exact e.at_ x hx
  · simp only [AV.conL, AV.con, injOf, hget]
    simp [CB.at, Addr.add]
  · refine ⟨_, [], rfl, ⟨⟨av (pre.length + 1), ?_, fun b hb => ?_, ?_⟩, fun _ b o q n e h => by simp at h, fun h => by omega⟩, rfl⟩
    · rw [chunk_len]
      refine .sl hlt (fun i v hv => ?_) (by rw [hcells]; omega) hal hcap
      rw [hcells, Nat.zero_add]; exact hv
    · simp only [AV.bk, Option.some.injEq] at hb
      subst hb; exact hlt
    · exact chunk_ok e.rc hs hl
end

/-! ### Types -/
mutual
def flatT (P : Program) : Nat → TypeId → Option (List CT)
  | 0, _ => none
  | n + 1, t => match P.underlying t with
    | some .bool => some [.b]
    | some (.int k) => some [.i k]
    | some (.slice e) => (flatT P n e).bind fun es => if es.length = P.cellsOf e ∧ es ≠ [] then some [.sl es] else none
    | some (.struct fs) => (flatF P n 0 fs.toList).bind fun es => if es.length = P.cellsOf t then some es else none
    | some (.array m e) => (flatT P n e).bind fun es => if es.length = P.cellsOf e ∧ P.cellsOf t = m * es.length then some (List.replicate m es).flatten else none
    | _ => none
def flatF (P : Program) : Nat → Nat → List Field → Option (List CT)
  | 0, _, _ => none
  | n + 1, o, [] => some []
  | n + 1, o, f :: r => (flatT P n f.type).bind fun es => if es.length = P.cellsOf f.type ∧ f.offset = o then (flatF P n (o + es.length) r).map (es ++ ·) else none
end
section
variable {P : Program} {W : World} {H : Type} {enc : TypeId × Value → H}
theorem opn_rep {es : List CT} {g : Nat → List Value} : ∀ (n : Nat), (∀ i, i < n → (g i).length = es.length ∧ ∃ p, hasL es p ∧ Opn W true (g i) p) →
    ∃ p, hasL (List.replicate n es).flatten p ∧ Opn W true ((List.range n).flatMap g) p
  | 0, h => ⟨[], by simp [hasL], by simpa using Opn.nil⟩
  | n + 1, h => by
    obtain ⟨p, h1, h2⟩ := opn_rep n fun i hi => h i (by omega)
    obtain ⟨_, q, h3, h4⟩ := h n (by omega)
    refine ⟨p ++ q, ?_, ?_⟩
    · rw [List.replicate_succ', List.flatten_append, List.flatten_singleton]
      exact hasL_app h1 h3
    · rw [List.range_succ, List.flatMap_append, List.flatMap_singleton]
      exact h2.app h4
theorem flatMap_len {g : Nat → List Value} {e : Nat} : ∀ (n : Nat), (∀ i, i < n → (g i).length = e) → ((List.range n).flatMap g).length = n * e
  | 0, h => by simp
  | n + 1, h => by
    rw [List.range_succ, List.flatMap_append, List.length_append, flatMap_len n fun i hi => h i (by omega), List.flatMap_singleton, h n (by omega), Nat.succ_mul]
theorem flatMap_get {g : Nat → List Value} {e : Nat} : ∀ (n : Nat), (∀ i, i < n → (g i).length = e) → ∀ i j, i < n → j < e → ((List.range n).flatMap g)[i * e + j]? = (g i)[j]?
  | 0, h, i, j, hi, hj => by omega
  | n + 1, h, i, j, hi, hj => by
    rw [List.range_succ, List.flatMap_append, List.flatMap_singleton]
    have hl := flatMap_len n fun i hi => h i (by omega)
    by_cases hin : i < n
    · have : i * e + j < n * e := by
        have : (i + 1) * e ≤ n * e := Nat.mul_le_mul_right _ hin
        rw [Nat.succ_mul] at this
        omega
      rw [List.getElem?_append_left (by omega)]
      exact flatMap_get n (fun i hi => h i (by omega)) i j hin hj
    · obtain rfl : i = n := by omega
      rw [List.getElem?_append_right (by omega), hl]
      congr 1
      omega
theorem range_chunks {cs : List Value} {e : Nat} : ∀ (n : Nat), cs.length = n * e → (List.range n).flatMap (fun i => (cs.drop (i * e)).take e) = cs := by
  intro n h
  apply List.ext_getElem?
  intro k
  have hg : ∀ i, i < n → ((cs.drop (i * e)).take e).length = e := fun i hi => by
    have : (i + 1) * e ≤ n * e := Nat.mul_le_mul_right _ hi
    rw [Nat.succ_mul] at this
    simp only [List.length_take, List.length_drop]; omega
  by_cases hk : k < n * e
  · have he : 0 < e := by
      rcases Nat.eq_zero_or_pos e with rfl | h
      · simp at hk
      · exact h
    have h1 : k / e < n := (Nat.div_lt_iff_lt_mul he).2 hk
    have h2 : k % e < e := Nat.mod_lt _ he
    have h3 : k / e * e + k % e = k := by rw [Nat.mul_comm]; exact Nat.div_add_mod k e
    have := flatMap_get n hg (k / e) (k % e) h1 h2
    rw [h3] at this
    rw [this, List.getElem?_take, if_pos h2, List.getElem?_drop, h3]
  · rw [List.getElem?_eq_none (by rw [flatMap_len n hg]; omega), List.getElem?_eq_none (by omega)]

theorem open_both : ∀ (n : Nat), (∀ t ts, flatT P n t = some ts → ∀ fuel cs x, DataW.trod enc P W 0 (fun _ => true) true fuel t cs = some x → ∃ p, hasL ts p ∧ Opn W true cs p ∧ cs.length = ts.length) ∧
    (∀ (l : List Field) (o : Nat) (ts : List CT) (cs : List Value) (m : Nat), flatF P n o l = some ts → (∀ f ∈ l, ∃ x, DataW.trod enc P W 0 (fun _ => true) true m f.type ((cs.drop f.offset).take (P.cellsOf f.type)) = some x) → ∃ p, hasL ts p ∧ Opn W true ((cs.drop o).take ts.length) p)
  | 0 => ⟨fun t ts h => by simp [flatT] at h, fun l o ts cs m h => by simp [flatF] at h⟩
  | n + 1 => by
    obtain ⟨ih1, ih2⟩ := open_both n
    constructor
    · intro t ts h fuel cs x hx
      unfold flatT at h
      split at h
      · rename_i ht
        simp only [Option.some.injEq] at h; subst h
        obtain ⟨b, rfl, _⟩ := DataW.trod_bool ht hx
        refine ⟨[.bo b], by simp [hasL, hasC], Opn.sca (a := .bo b) (fun _ => rfl) (fun _ => trivial) rfl (fun _ _ => rfl), rfl⟩
      · rename_i k ht
        simp only [Option.some.injEq] at h; subst h
        obtain ⟨m, rfl, _, hw⟩ := DataW.trod_int ht hx
        refine ⟨[.it k m], by simpa [hasL, hasC] using hw, Opn.sca (a := .it k m) (fun _ => rfl) (fun _ => trivial) rfl (fun _ _ => rfl), rfl⟩
      · rename_i e ht
        obtain ⟨es, he, h⟩ := Option.bind_eq_some_iff.1 h
        split at h
        · rename_i hc
          simp only [Option.some.injEq] at h; subst h
          rcases Go.Deep.open_slice ht hx with ⟨rfl, _⟩ | ⟨a, len, cap, m, nn, D, Pl, rfl, _, hl, hm, hmm, _, hall⟩
          · refine ⟨[.vs 1 es.length []], ?_, Opn.sca (a := .sn) (fun _ => rfl) (fun _ => trivial) rfl (fun _ _ => Rc_sn), rfl⟩
            simp only [hasL, hasC]
            exact ⟨_, _, rfl, ⟨[], rfl, by simp, fun x h => by simp at h⟩, rfl⟩
          · simp only [if_true] at hmm
            subst hmm
            have hall' : ∀ i, ∃ cs', i < len → W.cells? 0 (a.add (i * P.cellsOf e)) (P.cellsOf e) = some cs' ∧ ∃ p, hasL es p ∧ Opn W true cs' p := fun i => by
              by_cases hi : i < len
              · obtain ⟨cs', h1, h2⟩ := hall i (by omega)
                obtain ⟨p, h3, h4, _⟩ := ih1 e es he _ _ _ h2
                exact ⟨cs', fun _ => ⟨h1, p, h3, h4⟩⟩
              · exact ⟨[], fun h => absurd h hi⟩
            obtain ⟨g, hg⟩ := Classical.axiomOfChoice hall'
            have hgl : ∀ i, i < len → (g i).length = es.length := fun i hi => by
              rw [(World.cells?_some (hg i hi).1).2.1, hc.1]
            obtain ⟨p, h1, h2⟩ := opn_rep (W := W) len fun i hi => ⟨hgl i hi, (hg i hi).2⟩
            refine ⟨[.vs 1 es.length (chunk len es.length p)], ?_, ?_, rfl⟩
            · simp only [hasL, hasC]
              exact ⟨_, _, rfl, ⟨_, rfl, by rw [chunk_len]; omega, hasL_chunk h1⟩, rfl⟩
            · refine Opn.slice h2 (fun i hi => ?_) (hasL_sca h1) ?_ hl
              · rw [flatMap_len len hgl] at hi
                have he0 : 0 < es.length := List.length_pos_iff.2 hc.2
                have q1 : i / es.length < len := (Nat.div_lt_iff_lt_mul he0).2 hi
                have q2 : i % es.length < es.length := Nat.mod_lt _ he0
                have q3 : i / es.length * es.length + i % es.length = i := by rw [Nat.mul_comm]; exact Nat.div_add_mod i _
                have := flatMap_get len hgl _ _ q1 q2
                rw [q3] at this
                rw [this, ← (World.cells?_some (hg _ q1).1).2.2 _ (by rw [← hc.1]; exact q2), ← hc.1, Addr.add_add, q3]
              · rw [hasL_len h1]; simp
        · cases h
      · rename_i fs ht
        obtain ⟨es, he, h⟩ := Option.bind_eq_some_iff.1 h
        split at h
        · rename_i hc
          simp only [Option.some.injEq] at h; subst h
          obtain ⟨xs, m, rfl, _, hl, hxs, hall⟩ := DataW.trod_struct ht hx
          obtain ⟨p, h1, h2⟩ := ih2 fs.toList 0 es cs m he fun f hf => by
            obtain ⟨i, hi⟩ := List.mem_iff_getElem?.1 hf
            have hi' : fs[i]? = some f := by simpa using hi
            have hlt : i < xs.length := by rw [hxs]; exact (Array.getElem?_eq_some_iff.1 hi').1
            exact ⟨xs[i], by rw [hall i f hi', List.getElem?_eq_getElem hlt]⟩
          rw [List.drop_zero, List.take_of_length_le (by omega)] at h2
          exact ⟨p, h1, h2, by omega⟩
        · cases h
      · rename_i m e ht
        obtain ⟨es, he, h⟩ := Option.bind_eq_some_iff.1 h
        split at h
        · rename_i hc
          simp only [Option.some.injEq] at h; subst h
          obtain ⟨xs, mm, rfl, _, hl, hxs, hall⟩ := DataW.trod_array ht hx
          obtain ⟨p, h1, h2⟩ := opn_rep (W := W) (es := es) (g := fun i => (cs.drop (i * es.length)).take es.length) m fun i hi => by
            have := hall i hi
            rw [List.getElem?_eq_getElem (by omega), ← hc.1] at this
            obtain ⟨p, h3, h4, h5⟩ := ih1 e es he _ _ _ this
            exact ⟨h5, p, h3, h4⟩
          rw [range_chunks m (by rw [hl, hc.2])] at h2
          exact ⟨p, h1, h2, by rw [hl, hc.2]; simp⟩
        · cases h
      · cases h
    · intro l o ts cs m h hall
      match l with
      | [] =>
        simp only [flatF, Option.some.injEq] at h; subst h
        exact ⟨[], by simp [hasL], by simpa using Opn.nil⟩
      | f :: r =>
        simp only [flatF] at h
        obtain ⟨es, he, h⟩ := Option.bind_eq_some_iff.1 h
        split at h
        · rename_i hc
          obtain ⟨ts', h', rfl⟩ := Option.map_eq_some_iff.1 h
          obtain ⟨x, hx⟩ := hall f (by simp)
          obtain ⟨p, h1, h2, h3⟩ := ih1 _ _ he _ _ _ hx
          obtain ⟨q, h4, h5⟩ := ih2 r _ ts' cs m h' fun f hf => hall f (by simp [hf])
          refine ⟨p ++ q, hasL_app h1 h4, ?_⟩
          have e1 : (cs.drop o).take (es ++ ts').length = (cs.drop o).take es.length ++ (cs.drop (o + es.length)).take ts'.length := by
            rw [List.length_append, List.take_add, List.drop_drop]
          rw [e1]
          rw [hc.2, ← hc.1] at h2
          exact h2.app h5
        · cases h

/-- A whole argument. -/
def topT (P : Program) (n : Nat) (t : TypeId) : Option (Bool × List CT) :=
  match P.underlying t with
  | some (.struct _) | some (.array _ _) => (flatT P n t).map fun l => (true, l)
  | some .bool | some (.int _) | some (.slice _) => (flatT P n t).map fun l => (false, l)
  | _ => none
def hasT : List (Bool × List CT) → List PV → Prop
  | [], l => l = []
  | (true, ts) :: r, l => ∃ p l', l = .ag p :: l' ∧ hasL ts p ∧ hasT r l'
  | (false, ts) :: r, l => ∃ v l', l = v :: l' ∧ hasL ts [v] ∧ hasT r l'
theorem open_args {n : Nat} : ∀ (tt : List (Bool × List CT)) (ts : List TypeId) (vs : List Value) (ds : List (DataW H)) (ps : List MemPlace) (base : Nat), ts.map (topT P n) = tt.map some →
    (∀ (j : Nat) t v, ts[j]? = some t → vs[j]? = some v → Value.okWide P W .any base t v) → DataW.TrodAll enc P W 0 (fun _ => true) true ts vs ds ps → ∃ p, hasT tt p ∧ Opn W false vs p
  | [], ts, vs, ds, ps, base, ht, hv, h => by
    obtain rfl : ts = [] := by simpa using ht
    obtain ⟨rfl, rfl, rfl⟩ := trodAll_nil h
    exact ⟨[], rfl, Opn.nil⟩
  | c :: tt, [], vs, ds, ps, base, ht, hv, h => by simp at ht
  | c :: tt, t :: ts, vs, ds, ps, base, ht, hv, h => by
    simp only [List.map_cons, List.cons.injEq] at ht
    obtain ⟨v, vs', d, ds', p, q, rfl, rfl, rfl, h1, h2⟩ := trodAll_cons h
    obtain ⟨pr, hr, ho⟩ := open_args tt ts vs' ds' q base ht.2 (fun j t v h h' => hv (j + 1) t v h h') h2
    obtain ⟨fuel, hf⟩ := h1
    have hw := hv 0 t v rfl rfl
    have ht1 := ht.1
    unfold topT at ht1
    unfold Value.okWide at hw
    split at ht1
    · rename_i hu
      rw [hu] at hw
      obtain ⟨cs, rfl, _⟩ := hw
      obtain ⟨l, hl, rfl⟩ := Option.map_eq_some_iff.1 ht1
      obtain ⟨x, h3, h4, _⟩ := (open_both n).1 t l hl _ _ _ hf
      refine ⟨.ag x :: pr, ⟨_, _, rfl, h3, hr⟩, ?_⟩
      have := h4.ag.app ho
      simpa [Value.cells] using this
    · rename_i hu
      rw [hu] at hw
      obtain ⟨cs, rfl, _⟩ := hw
      obtain ⟨l, hl, rfl⟩ := Option.map_eq_some_iff.1 ht1
      obtain ⟨x, h3, h4, _⟩ := (open_both n).1 t l hl _ _ _ hf
      refine ⟨.ag x :: pr, ⟨_, _, rfl, h3, hr⟩, ?_⟩
      have := h4.ag.app ho
      simpa [Value.cells] using this
    · rename_i hu
      obtain ⟨l, hl, rfl⟩ := Option.map_eq_some_iff.1 ht1
      obtain ⟨b, rfl⟩ := okWide_bool hu (hv 0 t v rfl rfl)
      obtain ⟨x, h3, h4, h5⟩ := (open_both n).1 t l hl _ _ _ hf
      have hx := hasL_len h3
      match x, hx with
      | [y], _ => exact ⟨y :: pr, ⟨_, _, rfl, h3, hr⟩, by simpa [Value.cells] using (h4.weak (s := false)).app ho⟩
      | [], h6 => rw [← h5] at h6; simp [Value.cells] at h6
      | _ :: _ :: _, h6 => rw [← h5] at h6; simp [Value.cells] at h6
    · rename_i hu
      obtain ⟨l, hl, rfl⟩ := Option.map_eq_some_iff.1 ht1
      obtain ⟨b, rfl⟩ := okWide_int hu (hv 0 t v rfl rfl)
      obtain ⟨x, h3, h4, h5⟩ := (open_both n).1 t l hl _ _ _ hf
      have hx := hasL_len h3
      match x, hx with
      | [y], _ => exact ⟨y :: pr, ⟨_, _, rfl, h3, hr⟩, by simpa [Value.cells] using (h4.weak (s := false)).app ho⟩
      | [], h6 => rw [← h5] at h6; simp [Value.cells] at h6
      | _ :: _ :: _, h6 => rw [← h5] at h6; simp [Value.cells] at h6
    · rename_i hu
      obtain ⟨l, hl, rfl⟩ := Option.map_eq_some_iff.1 ht1
      obtain ⟨a, ln, cp, rfl⟩ := okWide_slice hu (hv 0 t v rfl rfl)
      obtain ⟨x, h3, h4, h5⟩ := (open_both n).1 t l hl _ _ _ hf
      have hx := hasL_len h3
      match x, hx with
      | [y], _ => exact ⟨y :: pr, ⟨_, _, rfl, h3, hr⟩, by simpa [Value.cells] using (h4.weak (s := false)).app ho⟩
      | [], h6 => rw [← h5] at h6; simp [Value.cells] at h6
      | _ :: _ :: _, h6 => rw [← h5] at h6; simp [Value.cells] at h6
    · cases ht1
/-- A law's call, out of the contract of its function. -/
theorem calls_of_pu {f : FuncId} {n : Nat} (tt : List (Bool × List CT)) {ts : List TypeId} {args : Array Value} {ds : List (DataW H)} {ps : List MemPlace} {base : Nat} (ht : ts.map (topT P n) = tt.map some)
    (hv : ∀ (j : Nat) t v, ts[j]? = some t → args[j]? = some v → Value.okWide P W .any base t v) (h : DataW.TrodAll enc P W 0 (fun _ => true) true ts args.toList ds ps)
    (hpu : ∀ p, hasT tt p → Pu P f p [] (.bo true)) : Calls P f args W fun e W' => e = .returned (.bool true) ∧ Below W.heap.size W W' := by
  obtain ⟨p, h1, k, rows, avs, hk, h2⟩ := open_args tt ts args.toList ds ps base ht (fun j t v h h' => hv j t v h (by simpa using h')) h
  have e := h2 [] []
  simp only [List.nil_append, List.append_nil, List.length_nil] at e
  have hR : RowsIn W (rows 0) := ⟨fun b a l hb i v hi => e.at_ (a, l) (List.mem_of_getElem? hb) i v hi⟩
  have hc : Call P f (avs 0) (AH.of (rows 0)) fun r H' => r = .ret (.bo true) ∧ True := by
    obtain ⟨a, H', L', h3, _, _, h4, _⟩ := hpu p h1 ⟨0, fun _ => .sn, (· < (rows 0).length)⟩ (AH.of (rows 0)) (avs 0) (HR_nil (fun X hX => hX) fun X hX => by
      simp only [AH.of]; rw [List.getElem?_eq_none hX]) (RcL.p _ e.rc)
    simp only [Rp] at h4
    subst h4
    exact ⟨_, _, h3, rfl, trivial⟩
  have := calls_of_call hR e.ok hc
  rw [← e.cs] at this
  exact this
end

end Go.AX
