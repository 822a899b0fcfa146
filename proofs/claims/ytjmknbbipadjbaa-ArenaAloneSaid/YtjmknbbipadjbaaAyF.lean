/- AY, part F: stores. -/
import Derived.Test.YtjmknbbipadjbaaAyE
set_option linter.unusedSimpArgs false
set_option linter.unusedVariables false
namespace Go.AX
open Go

section
variable {L L' : Lk} {H H' : AH} {B B' : List PB} {E : Nat → PV} {Ea : Env}
theorem splice_get {l m : List AV} {o : Nat} (h : o + m.length ≤ l.length) (j : Nat) : (splice l o m)[j]? = if o ≤ j ∧ j < o + m.length then m[j - o]? else l[j]? := by
  unfold splice
  by_cases h1 : j < o
  · rw [if_neg (by omega), List.getElem?_append_left (by simp; omega), List.getElem?_take_of_lt h1]
  · rw [List.getElem?_append_right (by simp; omega)]
    have : (l.take o).length = o := by simp; omega
    rw [this]
    by_cases h2 : j < o + m.length
    · rw [if_pos (by omega), List.getElem?_append_left (by omega)]
    · rw [if_neg (by omega), List.getElem?_append_right (by omega), List.getElem?_drop]
      congr 1; omega
theorem splice_app {cs sp m : List AV} {o : Nat} (h : o + m.length ≤ cs.length) : splice (cs ++ sp) o m = splice cs o m ++ sp := by
  apply List.ext_getElem?
  intro j
  rw [splice_get (by simp; omega)]
  by_cases hj : j < cs.length
  · rw [List.getElem?_append_left hj, List.getElem?_append_left (by rw [splice_length h]; exact hj), splice_get h]
  · rw [if_neg (by omega), List.getElem?_append_right (by omega), List.getElem?_append_right (by rw [splice_length h]; omega), splice_length h]
theorem splice_in {cs m : List AV} {p es o : Nat} (h : p + es ≤ cs.length) (ho : o + m.length ≤ es) : splice cs (p + o) m = splice cs p (splice ((cs.drop p).take es) o m) := by
  have hl : ((cs.drop p).take es).length = es := by simp; omega
  have hs : (splice ((cs.drop p).take es) o m).length = es := by rw [splice_length (by omega), hl]
  apply List.ext_getElem?
  intro j
  rw [splice_get (by omega), splice_get (by omega), hs]
  by_cases h1 : p ≤ j ∧ j < p + es
  · rw [if_pos h1, splice_get (by omega)]
    by_cases h2 : p + o ≤ j ∧ j < p + o + m.length
    · rw [if_pos h2, if_pos (by omega)]
      congr 1; omega
    · rw [if_neg h2, if_neg (by omega), List.getElem?_take_of_lt (by omega), List.getElem?_drop]
      congr 1; omega
  · rw [if_neg h1, if_neg (by omega)]
theorem splice_cons {c cs m : List AV} {o : Nat} : splice (c ++ cs) (c.length + o) m = c ++ splice cs o m := by
  unfold splice
  rw [List.take_append, List.take_of_length_le (by omega), Nat.add_sub_cancel_left, Nat.add_assoc, List.drop_append, List.drop_of_length_le (by omega), Nat.add_sub_cancel_left, List.nil_append, List.append_assoc]
theorem RcE.set {F : Nat → Prop} {es : Nat} {e : PV} {a : AV} {c' : List AV} (he : Rc F H e a) (hc : a.cl = some c') (hl : c'.length = es) : ∀ {l : List PV} {cs : List AV} {i : Nat}, RcE F H es l cs → i < l.length → RcE F H es (l.set i e) (splice cs (i * es) c')
  | v :: r, _, 0, ⟨a0, c, cs', h1, h2, h3, h4, h5⟩, _ => by
    subst h4
    rw [Nat.zero_mul]
    refine ⟨a, c', cs', he, hc, hl, ?_, h5⟩
    unfold splice
    rw [List.take_zero, List.nil_append, Nat.zero_add, List.drop_left' (by omega)]
  | v :: r, _, i + 1, ⟨a0, c, cs', h1, h2, h3, h4, h5⟩, hi => by
    subst h4
    refine ⟨a0, c, _, h1, h2, h3, ?_, RcE.set he hc hl h5 (by simpa using hi)⟩
    rw [Nat.add_mul, Nat.one_mul, Nat.add_comm, ← h3, splice_cons]
/-- A block of one's own is written. -/
theorem did_up (h : HR L H B) {b X : Nat} {p p' : PB} {cs' : List AV} {r : Option (AV × AH)} (hb : B[b]? = some p) (hp : p.own = true) (hp' : p'.own = true) (hX : (L.m b).bk = some X) (hF : ¬ L.F X)
    (hr : r = some (.tu [], H.up X cs')) (hk : BkR L (H.up X cs') p' (L.m b)) : Did L H B r (.tu []) (B.set b p') [b] (.tu []) (H.up X cs') L := by
  have hbl : b < B.length := (List.getElem?_eq_some_iff.1 hb).1
  have hFX : ∀ Y, L.F Y → (H.up X cs').g Y = H.g Y := fun Y hY => up_other (fun e => hF (e ▸ hY))
  have s : Stay L.F H L.F (H.up X cs') := ⟨Nat.le_refl _, fun _ h => h, hFX⟩
  have hO : Ow L B X := ⟨b, p, hb, hp, hX, hF⟩
  have get : ∀ c q, (B.set b p')[c]? = some q → (c = b ∧ q = p') ∨ (c ≠ b ∧ B[c]? = some q) := by
    intro c q hq
    rw [List.getElem?_set] at hq
    split at hq
    · rename_i he
      try rw [if_pos (by omega)] at hq
      simp only [Option.some.injEq] at hq
      exact .inl ⟨he.symm, hq.symm⟩
    · rename_i he; exact .inr ⟨fun e => he e.symm, hq⟩
  refine ⟨hr, ⟨⟨s, Nat.le_refl _, fun _ _ => rfl⟩, fun Y hY hFY hOY => up_other (fun e => hOY (e ▸ hO)), fun Y hY => .inl hY, fun Y ⟨c, q, h1, h2, h3, h4⟩ => ?_⟩, ⟨by rw [List.length_set]; exact h.n, h.fl, fun Y hY => by rw [up_other (fun e => by have := Ow_lt h hO; simp only [AH.up] at hY; omega)]; exact h.wf Y hY, fun c q hq => ?_, fun c c' q q' Y hq hq' ho ho' hY hY' hFY => ?_⟩, ⟨[], rfl, rfl⟩, fun Y hY hT => up_other fun e => hT b (by simp) (by have := h.n; omega) (by rw [hX, e])⟩
  · rcases get c q h1 with ⟨rfl, rfl⟩ | ⟨_, h1⟩
    · exact .inl ⟨c, p, hb, hp, h3, h4⟩
    · exact .inl ⟨c, q, h1, h2, h3, h4⟩
  · rcases get c q hq with ⟨rfl, rfl⟩ | ⟨hne, hq⟩
    · exact hk
    · refine (h.bk c q hq).keep ⟨s, Nat.le_refl _, fun _ _ => rfl⟩ fun Y ho hY hFY => ⟨up_other fun e => ?_, hFY⟩
      subst e
      exact hne (h.dj c b q p Y hq hb ho hp hY hX hFY)
  · rcases get c q hq with ⟨e1, e2⟩ | ⟨hne, hq2⟩ <;> rcases get c' q' hq' with ⟨e3, e4⟩ | ⟨hne', hq2'⟩
    · rw [e1, e3]
    · rw [e1] at hY ⊢
      exact h.dj b c' p q' Y hb hq2' hp ho' hY hY' hFY
    · rw [e3] at hY' ⊢
      exact h.dj c b q p Y hq2 hb ho hp hY hY' hFY
    · exact h.dj c c' q q' Y hq2 hq2' ho ho' hY hY' hFY
def psetE (l : List PV) (i o n es : Nat) (m : List PV) (x : PV) : Option (List PV) :=
  if o = 0 ∧ n = es then (if x.cld = true ∧ i < l.length then some (l.set i x) else none)
  else (l[i]?).bind fun e => e.cl.bind fun c => if c.length = es ∧ PV.scaL (c.take o ++ (m ++ c.drop (o + n))) = true then some (l.set i (elemOf (c.take o ++ (m ++ c.drop (o + n))))) else none
def psto (n : Nat) (B : List PB) (a x : PV) : Option (PV × List PB) :=
  match a with
  | .pt b o => match B[b]? with
    | some (.va l) => x.cl.bind fun m => if m.length = n ∧ o + n ≤ l.length then some (.tu [], B.set b (.va (l.take o ++ (m ++ l.drop (o + n))))) else none
    | _ => none
  | .pg es b i o => match B[b]? with
    | some (.gs true es' l) => x.cl.bind fun m => if m.length = n ∧ o + n ≤ es ∧ es' = es then (psetE l i o n es m x).map fun l' => (.tu [], B.set b (.gs true es l')) else none
    | _ => none
  | _ => none
def ptch : PV → List Nat
  | .pt b _ => [b]
  | .pg _ b _ _ => [b]
  | .gr b => [b]
  | _ => []
theorem psto_ok (h : HR L H B) {n : Nat} {a x v : PV} {c d : AV} (ha : Rp L H a c) (hx : Rp L H x d) (hv : psto n B a x = some (v, B')) : ∃ e H' L', Did L H B (vsto n H c d) v B' (ptch a) e H' L' := by
  unfold psto at hv
  split at hv
  · rename_i b o
    obtain ⟨h0, X, hm, rfl⟩ := ha
    split at hv
    · rename_i l hb
      simp only [Option.bind_eq_some_iff] at hv
      obtain ⟨m, hm', hv⟩ := hv
      split at hv
      · rename_i hcnd
        simp only [Option.some.injEq, Prod.mk.injEq] at hv
        obtain ⟨rfl, rfl⟩ := hv
        obtain ⟨mm, h1, h2⟩ := hx.cl hm'
        obtain ⟨X', cs, h3, h4, h5, h6, h7⟩ := h.bk b _ hb
        rw [hm] at h3
        simp only [AV.pt.injEq, and_true] at h3; subst h3
        have hX : (L.m b).bk = some X := by rw [hm]; rfl
        have hlen := h2.len
        have hlen2 := h7.len
        refine ⟨_, _, _, did_up h hb rfl rfl hX h5 (cs' := splice cs o mm) ?_ ?_⟩
        · simp only [vsto, h1, Option.bind_some]
          rw [if_pos (by omega), wr_rw' h6 (by omega)]; rfl
        · have k : Keep L H L (H.up X (splice cs o mm)) := ⟨⟨Nat.le_refl _, fun _ h => h, fun Y hY => up_other (fun e => h5 (e ▸ hY))⟩, Nat.le_refl _, fun _ _ => rfl⟩
          have hsp : splice cs o mm = cs.take o ++ (mm ++ cs.drop (o + n)) := by unfold splice; rw [hlen, hcnd.1]
          refine ⟨X, _, hm, h4, h5, up_self, ?_⟩
          generalize splice cs o mm = S at *
          subst hsp
          exact (RpL.mono k _ h7).take o |>.app ((RpL.mono k _ h2).app ((RpL.mono k _ h7).drop _))
      · cases hv
    · cases hv
  · rename_i es b i o
    obtain ⟨h0, X, hX, rfl⟩ := ha
    split at hv
    · rename_i es' l hb
      simp only [Option.bind_eq_some_iff] at hv
      obtain ⟨m, hm', hv⟩ := hv
      split at hv
      · rename_i hcnd
        obtain ⟨hmn, hon, rfl⟩ := hcnd
        obtain ⟨l', hl', hv⟩ := Option.map_eq_some_iff.1 hv
        simp only [Prod.mk.injEq] at hv
        obtain ⟨rfl, rfl⟩ := hv
        obtain ⟨mm, h1, h2⟩ := hx.cl hm'
        have hlen := h2.len
        -- the element, and what it is then
        have key : i < l.length ∧ ∀ cs, RcE L.F H es' l cs → ∃ e a', l' = l.set i e ∧ Rc L.F H e a' ∧ a'.cl = some (splice ((cs.drop (i * es')).take es') o mm) := by
          unfold psetE at hl'
          split at hl'
          · rename_i h00
            split at hl'
            · rename_i hcl
              simp only [Option.some.injEq] at hl'; subst hl'
              refine ⟨hcl.2, fun cs hcs => ⟨x, d, rfl, Rp.c x hcl.1 hx, ?_⟩⟩
              obtain ⟨a0, _, _, r3, r4⟩ := hcs.elt (List.getElem?_eq_getElem hcl.2)
              rw [h1, h00.1, splice0 (by omega)]
            · cases hl'
          · simp only [Option.bind_eq_some_iff] at hl'
            obtain ⟨e0, he0, c0, hc0, hl'⟩ := hl'
            split at hl'
            · rename_i hsc
              simp only [Option.some.injEq] at hl'; subst hl'
              have hi := (List.getElem?_eq_some_iff.1 he0).1
              refine ⟨hi, fun cs hcs => ?_⟩
              obtain ⟨a0, r1, r2, r3, r4⟩ := hcs.elt he0
              obtain ⟨cc, hcc, hr⟩ := r1.cl hc0
              rw [r2] at hcc
              simp only [Option.some.injEq] at hcc; subst hcc
              have hmc : RcL L.F H m mm := by
                refine RpL.c m ?_ h2
                have := List.all_eq_true.1 hsc.2
                have hall : PV.scaL m = true := List.all_eq_true.2 fun v hv => this v (by simp [hv])
                exact scaL_cldL hall
              have := (hr.take o).app (hmc.app (hr.drop (o + n)))
              obtain ⟨a', g1, g2⟩ := elemOf_ok this hsc.2
              refine ⟨_, a', rfl, g1, ?_⟩
              rw [g2]
              unfold splice
              rw [hlen, hmn]
            · cases hl'
        obtain ⟨hi, key⟩ := key
        obtain ⟨⟨h3, h4⟩ | ⟨X', h3, h4⟩, hone⟩ := h.bk b _ hb
        · rw [h4 rfl] at hi; simp at hi
        · have hX' := h4.bk
          rw [hX] at hX'
          simp only [Option.some.injEq] at hX'; subst hX'
          obtain ⟨cs, sp, g1, g2, g3, g4⟩ := h4
          obtain ⟨e, a', rfl, k1, k2⟩ := key cs g3
          have hcl := g3.len
          have hmul : i * es' + es' ≤ cs.length := by
            have := Nat.mul_le_mul_right es' (show i + 1 ≤ l.length by omega)
            rw [Nat.add_mul, Nat.one_mul] at this; omega
          have hel : ((cs.drop (i * es')).take es').length = es' := by simp; omega
          have k3 : (splice ((cs.drop (i * es')).take es') o mm).length = es' := by rw [splice_length (by omega), hel]
          have hst : Stay L.F H L.F (H.up X (splice cs (i * es' + o) mm ++ sp)) := ⟨Nat.le_refl _, fun _ h => h, fun Y hY => up_other (fun e => h3 (e ▸ hY))⟩
          refine ⟨_, _, _, did_up h hb rfl rfl hX h3 (cs' := splice cs (i * es' + o) mm ++ sp) ?_ ⟨.inr ⟨X, h3, splice cs (i * es' + o) mm, sp, g1, up_self, ?_, ?_⟩, hone⟩⟩
          · simp only [vsto, h1, Option.bind_some]
            rw [if_pos (by omega), wr_rw' g2 (by simp; omega), splice_app (by omega)]; rfl
          · have hsp := splice_in (m := mm) hmul (show o + mm.length ≤ es' by omega)
            refine RcE.mono hst _ _ ?_
            rw [hsp]
            exact RcE.set k1 k2 k3 g3 hi
          · rw [List.length_set]; exact g4
      · cases hv
    · cases hv
  · cases hv
end
end Go.AX
