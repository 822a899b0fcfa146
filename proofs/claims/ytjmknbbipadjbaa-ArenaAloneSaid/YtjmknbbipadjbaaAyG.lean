/- AY, part G: append; every operation. -/
import Derived.Test.YtjmknbbipadjbaaAyF
set_option linter.unusedSimpArgs false
set_option linter.unusedVariables false
namespace Go.AX
open Go

section
variable {L L' : Lk} {H H' : AH} {B B' : List PB} {E : Nat → PV} {Ea : Env}
/-- What a slice holds. -/
def pcont (es : Nat) (B : List PB) : PV → Option (List PV)
  | .sn => some []
  | .vs w es' l => if es' = es then some l else if 2 ≤ w then (match l with | [] => some [] | _ => none) else none
  | .gr b => match B[b]? with
    | some (.gs _ es' l) => if es' = es then some l else none
    | some (.fz es' l) => if es' = es then some l else none
    | _ => none
  | .gp es' b lo n => (pblk B b).bind fun p => if es' = es ∧ p.1 = es ∧ lo + n ≤ p.2.length then some ((p.2.drop lo).take n) else none
  | _ => none
theorem Rc_vs_sc {F : Nat → Prop} {w es : Nat} {l : List PV} {a : AV} (h : Rc F H (.vs w es l) a) : ∃ cs, H.sc es a = some (l.length, cs) ∧ RcE F H es l cs := by
  obtain ⟨⟨cs, h1, _, h2⟩, _⟩ := h
  exact ⟨cs, h1.sc, h2⟩
theorem GsX.sc {F : Nat → Prop} {es : Nat} {l : List PV} {a : AV} {X : Nat} (h : GsX F H es l a X) : ∃ cs, H.sc es a = some (l.length, cs) ∧ RcE F H es l cs := by
  obtain ⟨cs, h1, h2⟩ := h.sl
  exact ⟨cs, h1.sc, h2⟩
theorem pcont_ok (h : HR L H B) {es : Nat} {v : PV} {a : AV} {l : List PV} (hv : Rp L H v a) (hl : pcont es B v = some l) : ∃ cs, H.sc es a = some (l.length, cs) ∧ RcE L.F H es l cs := by
  unfold pcont at hl
  split at hl
  · simp only [Option.some.injEq] at hl; subst hl
    simp only [Rp] at hv; subst hv
    exact ⟨[], rfl, rfl⟩
  · split at hl
    · rename_i he; subst he
      simp only [Option.some.injEq] at hl; subst hl
      exact Rc_vs_sc hv
    · split at hl
      · rename_i hw
        split at hl
        · simp only [Option.some.injEq] at hl; subst hl
          obtain ⟨⟨cs, h1, _, h2⟩, _, h3⟩ := hv
          simp only [RcE] at h2; subst h2
          refine ⟨[], ?_, rfl⟩
          rcases h3 hw with rfl | ⟨X, o, rfl⟩
          · rfl
          · simp only [List.length_nil] at h1 ⊢
            cases h1 with
            | sl g1 g2 g3 g4 g5 =>
              simp only [AH.sc, Nat.zero_mul, AH.rd]
              rw [if_pos (by simp at g3; omega)]
              simp
        · cases hl
      · cases hl
  · obtain ⟨h0, rfl, _⟩ := hv
    split at hl
    · rename_i he
      split at hl
      · rename_i hes; subst hes
        simp only [Option.some.injEq] at hl; subst hl
        obtain ⟨⟨h1, _⟩ | ⟨X, _, h1⟩, _⟩ := h.bk _ _ he
        · exact Rc_vs_sc h1
        · exact h1.sc
      · cases hl
    · rename_i he
      split at hl
      · rename_i hes; subst hes
        simp only [Option.some.injEq] at hl; subst hl
        obtain ⟨⟨h1, _⟩ | ⟨X, _, h1⟩, _⟩ := h.bk _ _ he
        · exact Rc_vs_sc h1
        · exact h1.sc
      · cases hl
    · cases hl
  · rename_i es' b lo n
    obtain ⟨h0, hv⟩ := hv
    simp only [Option.bind_eq_some_iff] at hl
    obtain ⟨⟨es2, l2⟩, hb, hl⟩ := hl
    split at hl
    · rename_i hcnd
      obtain ⟨rfl, h2, hle⟩ := hcnd
      simp only at h2; subst h2
      simp only [Option.some.injEq] at hl; subst hl
      simp only at hle
      have hlen : ((l2.drop lo).take n).length = n := by simp; omega
      rcases hv with ⟨rfl, hv⟩ | ⟨X, hX, hv⟩
      · have : (l2.drop lo).take 0 = [] := by simp
        rw [this]
        exact Rc_vs_sc hv
      · rcases pblk_ok h hb with ⟨hr, hnil⟩ | ⟨X', h1⟩
        · subst hnil
          simp only [List.length_nil] at hle
          obtain rfl : n = 0 := by omega
          obtain rfl : lo = 0 := by omega
          have he : ((([] : List PV).drop 0).take 0) = [] := rfl
          rw [he]
          refine ⟨[], ?_, rfl⟩
          rcases hv with ⟨o, c, rfl, h3, h4⟩ | ⟨o, q, n0, rfl, h3, h4, h5⟩
          · have : o = 0 := by omega
            subst this
            simp only [AH.sc, Nat.zero_mul, AH.rd, List.length_nil]
            rw [if_pos (by omega)]; simp
          · obtain ⟨⟨cs, g1, g2, g3⟩, g4, g5⟩ := hr
            rcases g5 (Nat.le_refl _) with g5 | ⟨Y, o, g5⟩ <;> (rw [g5] at h5; cases h5)
        · have hX' := h1.bk
          rw [hX] at hX'
          simp only [Option.some.injEq] at hX'; subst hX'
          obtain ⟨cs, sp, g1, g2, g3, g4⟩ := h1
          have hcl := g3.len
          have hmul : lo * es2 + n * es2 ≤ cs.length := by rw [hcl, ← Nat.add_mul]; exact Nat.mul_le_mul_right _ hle
          have hrd : H.rd X (lo * es2) (n * es2) = some ((cs.drop (lo * es2)).take (n * es2)) := by
            have hR : Rd H X 0 cs := ⟨fun i v hi => by rw [g2, Nat.zero_add]; simp only [Blk.cells]; rw [List.getElem?_append_left (List.getElem?_eq_some_iff.1 hi).1]; exact hi, by rw [g2]; simp [Blk.cells]⟩
            have := hR.sub (lo * es2) (n * es2) hmul
            rwa [Nat.zero_add] at this
          refine ⟨_, ?_, (g3.drop lo).take n⟩
          rw [hlen]
          rcases hv with ⟨o, c, rfl, h3, h4⟩ | ⟨o, q, n0, rfl, h3, h4, _⟩
          · rcases h4 with ⟨rfl, h4⟩ | h4
            · simp only [AH.sc, Nat.zero_mul, AH.rd]
              rw [if_pos (by rw [g2]; simp [Blk.cells]; omega)]
              simp
            · subst h4
              simp only [AH.sc, hrd, Option.map_some]
          · subst h4
            simp only [AH.sc]
            rw [if_pos ⟨trivial, h3, by rw [g2]; rfl⟩, hrd]; rfl
    · cases hl
  · cases hl

/-- What it is appended to: what it holds, whether it may be written then, and which name it loses. -/
def pbase (es : Nat) (B : List PB) : PV → Option (Bool × List PV × Option Nat)
  | .sn => some (true, [], none)
  | .vs w es' l => if 2 ≤ w then (if es' = es then some (l.isEmpty, l, none) else match l with | [] => some (true, [], none) | _ => none) else none
  | .gr b => match B[b]? with
    | some (.gs w es' l) => if es' = es then some (w, l, some b) else none
    | _ => none
  | _ => none
def pkill (B : List PB) : Option Nat → List PB
  | none => B
  | some b => B.set b .no
def papp (es bytes : Nat) (B : List PB) (s : PV) (m : List PV) : Option (PV × List PB) :=
  (pbase es B s).bind fun p => if (p.2.1.length + m.length) * bytes ≤ 140737488355328 ∧ 0 < es then some (.gr B.length, pkill B p.2.2 ++ [.gs (p.1 || !m.isEmpty) es (p.2.1 ++ m)]) else none
theorem Rc_emp {F : Nat → Prop} {es es' : Nat} {a : AV} (h : Rc F H (.vs 2 es []) a) : Rc F H (.vs 2 es' []) a := by
  obtain ⟨⟨cs, h1, h2, h3⟩, h4, h5⟩ := h
  simp only [RcE] at h3; subst h3
  refine ⟨⟨[], ?_, h2, rfl⟩, h4, h5⟩
  rcases h5 (Nat.le_refl _) with rfl | ⟨X, o, rfl⟩
  · exact .sn
  · cases h1 with
    | sl g1 g2 g3 g4 g5 => exact .sl g1 (fun i v hi => by simp at hi) (by simpa using g3) (by simp) g5
theorem did_more (h : HR L H B) {a : AV} {p : PB} {k : Option Nat} {T : List Nat} {r : Option (AV × AH)} (hr : r = some (a, H')) (hn : H.nx ≤ H'.nx) (hw : ∀ X, H'.nx ≤ X → H'.g X = .no) (hg : ∀ X, X < H.nx → (∀ b ∈ T, b < L.n → (L.m b).bk ≠ some X) → H'.g X = H.g X)
    (hT : ∀ b ∈ T, b < L.n → k = some b ∧ ∀ X, (L.m b).bk = some X → ¬ L.F X ∧ Ow L B X) (hb : BkR (L.put a) H' p a) (ha : a.cl = some [a]) (hX : ∀ X, a.bk = some X → ¬ L.F X → (Ow L B X ∧ ¬ Ow L (pkill B k) X) ∨ H.nx ≤ X) (ho : ∀ X b, k = some b → (L.m b).bk = some X → b ∈ T → ¬ Ow L (pkill B k) X) :
    Did L H B r (.gr B.length) (pkill B k ++ [p]) T a H' (L.put a) := by
  have hF : ∀ X, L.F X → H'.g X = H.g X := fun X hX => hg X (h.fl X hX) fun b hb hbn e => (hT b hb hbn).2 X e |>.1 hX
  have hk : HR L H (pkill B k) := by
    cases k with
    | none => exact h
    | some b => exact HR_kill h b
  have hO : ∀ X, Ow L (pkill B k) X → Ow L B X := by
    cases k with
    | none => exact fun _ h => h
    | some b => exact fun X hX => Ow_kill hX
  have hlen : (pkill B k).length = B.length := by
    cases k with
    | none => rfl
    | some b => exact List.length_set
  have hk' : HR L H' (pkill B k) := HR_ext hk hn hw fun X hlt hX => by
    rcases hX with hX | hX
    · exact hF X hX
    · refine hg X hlt fun b hb hbn e => ?_
      obtain ⟨h1, h2⟩ := hT b hb hbn
      exact ho X b h1 e hb hX
  refine ⟨hr, Ev_add h hlen hn hF (fun X hlt hFX hOX => hg X hlt fun b hb hbn e => hOX ((hT b hb hbn).2 X e).2) hO (fun X hXa _ hFX => ?_), HR_add hk' hb (fun X hXa _ hFX hOX => ?_), ?_, hg⟩
  · rcases hX X hXa hFX with h1 | h1
    · exact .inl h1.1
    · exact .inr h1
  · rcases hX X hXa hFX with h1 | h1
    · exact h1.2 hOX
    · have := Ow_lt h (hO X hOX); omega
  · rw [← h.n]
    exact ⟨Nat.lt_succ_self _, put_new.symm, ha⟩
theorem papp_ok (h : HR L H B) {es bytes : Nat} {s v : PV} {a : AV} {m : List PV} {cs : List AV} (hs : Rp L H s a) (hm : RcE L.F H es m cs) (hv : papp es bytes B s m = some (v, B')) :
    ∃ e H' L', Did L H B (vapp es bytes H a m.length cs) v B' (ptch s) e H' L' := by
  simp only [papp, Option.bind_eq_some_iff] at hv
  obtain ⟨⟨w, l, k⟩, hb, hv⟩ := hv
  split at hv
  · rename_i hcnd
    obtain ⟨hle, hes⟩ := hcnd
    simp only at hle hv
    simp only [Option.some.injEq, Prod.mk.injEq] at hv
    obtain ⟨rfl, rfl⟩ := hv
    have hcl := hm.len
    -- what it is appended to stays: a copy
    have copy : ∀ {T : List Nat}, Rc L.F H (.vs 2 es l) a → (w = true → l = []) → (∀ b ∈ T, b < L.n → k = some b ∧ ∀ X, (L.m b).bk = some X → ¬ L.F X ∧ Ow L B X) → (∀ X b, k = some b → (L.m b).bk = some X → b ∈ T → ¬ Ow L (pkill B k) X) →
        ∃ e H' L', Did L H B (vapp es bytes H a m.length cs) (.gr B.length) (pkill B k ++ [.gs (w || !m.isEmpty) es (l ++ m)]) T e H' L' := by
      intro T hr hw hT hTo
      obtain ⟨⟨ls, h1, h2, h3⟩, h4, h5⟩ := hr
      have hone : a.cl = some [a] := h1.cl
      by_cases hm0 : m.length = 0
      · have hmn : m = [] := List.eq_nil_of_length_eq_zero hm0
        subst hmn
        have hvapp : vapp es bytes H a 0 cs = some (a, H) := by
          rcases h5 (Nat.le_refl _) with rfl | ⟨X, o, rfl⟩
          · simp [vapp]
          · simp [vapp]
        refine ⟨_, _, _, did_more h hvapp (Nat.le_refl _) h.wf (fun _ _ _ => rfl) hT ⟨.inl ⟨?_, ?_⟩, hone⟩ hone (fun X hX hF => absurd (h2 X hX) hF) hTo⟩
        · rw [List.append_nil]
          exact ⟨⟨ls, h1, h2, h3⟩, h4, h5⟩
        · rw [List.append_nil]
          simpa using hw
      · have hmne : m.isEmpty = false := by cases m <;> simp_all
        have hs' : Stay L.F H L.F (H.al (ls ++ cs)) := ⟨Nat.le_succ _, fun _ h => h, fun X hX => al_old (h.fl X hX)⟩
        have hvapp : vapp es bytes H a m.length cs = some (.sg H.nx 0 0 (l ++ m).length es, H.al (ls ++ cs)) := by
          have hlen := h3.len
          rcases h5 (Nat.le_refl _) with rfl | ⟨X, o, rfl⟩
          · cases hlz : l with
            | cons _ _ => rw [hlz] at h1; simp at h1; cases h1
            | nil =>
              rw [hlz] at h3 hle
              simp only [RcE] at h3; subst h3
              simp only [List.length_nil, Nat.zero_add] at hle
              simp only [vapp, if_neg hm0, if_pos hle, List.nil_append]
          · have hrd : H.rd X o (l.length * es) = some ls := by
              generalize l.length = n at h1
              cases h1 with
              | sl g1 g2 g3 g4 g5 => exact rd_at g2 g3 g4
            simp only [vapp, if_neg hm0]
            rw [if_neg (by omega), if_pos hle, hrd]
            simp [List.length_append]
        refine ⟨_, _, _, did_more h hvapp (Nat.le_succ _) (al_wf h.wf) (fun X hX _ => al_old hX) hT ⟨.inr ⟨H.nx, fun hF => by have := h.fl _ hF; omega, ls ++ cs, [], Nat.lt_succ_self _, by rw [List.append_nil]; exact al_new, RcE.mono hs' _ _ (h3.app hm), .inl ⟨rfl, hes⟩⟩, rfl⟩ rfl (fun X hX hF => ?_) hTo⟩
        simp only [AV.bk, Option.some.injEq] at hX
        exact .inr (by omega)
    unfold pbase at hb
    split at hb
    · simp only [Option.some.injEq, Prod.mk.injEq] at hb
      obtain ⟨rfl, rfl, rfl⟩ := hb
      simp only [Rp] at hs; subst hs
      exact copy Rc_snil (fun _ => rfl) (fun b hb => by simp [ptch] at hb) (fun X b hk => by cases hk)
    · rename_i w' es' l'
      split at hb
      · rename_i hw2
        have hs2 : Rc L.F H (.vs 2 es' l') a := ⟨hs.1, fun _ => hs.2.1 (by omega), fun _ => hs.2.2 hw2⟩
        split at hb
        · rename_i he; subst he
          simp only [Option.some.injEq, Prod.mk.injEq] at hb
          obtain ⟨rfl, rfl, rfl⟩ := hb
          exact copy hs2 (fun hw => by simpa using hw) (fun b hb => by simp [ptch] at hb) (fun X b hk => by cases hk)
        · split at hb
          · simp only [Option.some.injEq, Prod.mk.injEq] at hb
            obtain ⟨rfl, rfl, rfl⟩ := hb
            exact copy (Rc_emp hs2) (fun _ => rfl) (fun b hb => by simp [ptch] at hb) (fun X b hk => by cases hk)
          · cases hb
      · cases hb
    · rename_i b
      split at hb
      · rename_i w' es' l' hbb
        split at hb
        · rename_i he; subst he
          simp only [Option.some.injEq, Prod.mk.injEq] at hb
          obtain ⟨rfl, rfl, rfl⟩ := hb
          obtain ⟨h0, rfl, hone⟩ := hs
          obtain ⟨h1 | ⟨X, hF, h1⟩, _⟩ := h.bk b _ hbb
          · obtain ⟨e, H', L', d⟩ := copy (T := []) h1.1 h1.2 (fun b hb => by simp at hb) (fun X b hk _ hb => by simp at hb)
            exact ⟨e, H', L', d.eq, d.ev, d.hr, d.rp, fun X hX _ => d.un X hX (fun b hb => by simp at hb)⟩
          · have hX := h1.bk
            have hOX : Ow L B X := ⟨b, _, hbb, rfl, hX, hF⟩
            have hT : ∀ c ∈ ptch (.gr b), c < L.n → some b = some c ∧ ∀ Y, (L.m c).bk = some Y → ¬ L.F Y ∧ Ow L B Y := by
              intro c hc hcn
              simp only [ptch, List.mem_cons, List.not_mem_nil, or_false] at hc; subst hc
              refine ⟨rfl, fun Y hY => ?_⟩
              rw [hX] at hY; simp only [Option.some.injEq] at hY; subst hY
              exact ⟨hF, hOX⟩
            have hnot : ¬ Ow L (pkill B (some b)) X := fun ho => Ow_kill_ne h hbb hX ho rfl
            have hTo : ∀ Y c, some b = some c → (L.m c).bk = some Y → c ∈ ptch (.gr b) → ¬ Ow L (pkill B (some b)) Y := by
              intro Y c hc hY _
              simp only [Option.some.injEq] at hc; subst hc
              rw [hX] at hY; simp only [Option.some.injEq] at hY; subst hY
              exact hnot
            obtain ⟨ls, sp, g1, g2, g3, g4⟩ := h1
            have hll := g3.len
            have hadd : (l'.length + m.length) * es' = ls.length + cs.length := by rw [Nat.add_mul, hll, hcl]
            have hst : ∀ Y, L.F Y → Y ≠ X := fun Y hY e => hF (e ▸ hY)
            by_cases hm0 : m.length = 0
            · have hmn : m = [] := List.eq_nil_of_length_eq_zero hm0
              subst hmn
              have hvapp : vapp es' bytes H (L.m b) 0 cs = some (L.m b, H) := by
                rcases g4 with ⟨g4, _⟩ | ⟨c, g5, g4, _⟩
                · rw [g4]; simp only [vapp]
                  rw [if_pos ⟨trivial, hes, by rw [g2]; simp [Blk.cells]; omega, by rw [g2]; rfl⟩]; rfl
                · rw [g4]; simp only [vapp, if_true]
                  rw [if_pos g5]
              refine ⟨_, _, _, did_more h hvapp (Nat.le_refl _) h.wf (fun _ _ _ => rfl) hT ⟨.inr ⟨X, hF, ls, sp, g1, g2, by rw [List.append_nil]; exact g3, by rw [List.append_nil]; exact g4⟩, hone⟩ hone (fun Y hY _ => ?_) hTo⟩
              rw [hX] at hY; simp only [Option.some.injEq] at hY; subst hY
              exact .inl ⟨hOX, hnot⟩
            · -- in place
              have place : ∀ (a' : AV), a'.bk = some X → a'.cl = some [a'] → cs.length ≤ sp.length → vapp es' bytes H (L.m b) m.length cs = some (a', H.up X (splice (ls ++ sp) ls.length cs)) →
                  ((a' = .sg X 0 0 (l' ++ m).length es' ∧ 0 < es') ∨ ∃ c, (l' ++ m).length ≤ c ∧ a' = .sl X 0 (l' ++ m).length c ∧ (sp.drop cs.length).length = (c - (l' ++ m).length) * es') →
                  ∃ e H' L', Did L H B (vapp es' bytes H (L.m b) m.length cs) (.gr B.length) (pkill B (some b) ++ [.gs (w' || !m.isEmpty) es' (l' ++ m)]) (ptch (.gr b)) e H' L' := by
                intro a' ha' hone' hroom hvapp hform
                have hsp : splice (ls ++ sp) ls.length cs = (ls ++ cs) ++ sp.drop cs.length := by
                  unfold splice
                  rw [List.take_left' rfl, List.drop_append, List.drop_of_length_le (by omega), Nat.add_sub_cancel_left, List.nil_append, List.append_assoc]
                rw [hsp] at hvapp
                have hs' : Stay L.F H L.F (H.up X ((ls ++ cs) ++ sp.drop cs.length)) := ⟨Nat.le_refl _, fun _ h => h, fun Y hY => up_other (hst Y hY)⟩
                refine ⟨_, _, _, did_more h hvapp (Nat.le_refl _) (fun Y hY => by simp only [AH.up] at hY ⊢; rw [if_neg (by omega)]; exact h.wf Y hY) (fun Y hY hYT => up_other fun e => hYT b (by simp [ptch]) h0 (by rw [hX, e])) hT ⟨.inr ⟨X, hF, ls ++ cs, sp.drop cs.length, g1, up_self, RcE.mono hs' _ _ (g3.app hm), hform⟩, hone'⟩ hone' (fun Y hY _ => ?_) hTo⟩
                rw [ha'] at hY; simp only [Option.some.injEq] at hY; subst hY
                exact .inl ⟨hOX, hnot⟩
              rcases g4 with ⟨g4, _⟩ | ⟨c, g5, g4, g6⟩
              · by_cases hfit : (l'.length + m.length) * es' ≤ (ls ++ sp).length
                · refine place (.sg X 0 0 (l' ++ m).length es') rfl rfl (by simp at hfit; omega) ?_ (.inl ⟨rfl, hes⟩)
                  rw [g4]; simp only [vapp]
                  rw [if_pos ⟨trivial, hes, by rw [g2]; simp [Blk.cells]; omega, by rw [g2]; rfl⟩, if_neg hm0, if_pos (by rw [g2]; simpa [Blk.cells] using hfit), wr_rw' g2 (by simp at hfit ⊢; omega)]
                  simp [hll]
                · have hvapp : vapp es' bytes H (L.m b) m.length cs = some (.sg H.nx 0 0 (l' ++ m).length es', (H.al (ls ++ cs)).no X) := by
                    rw [g4]; simp only [vapp]
                    have hrd : H.rd X 0 (l'.length * es') = some ls := by
                      refine rd_at (fun i v hi => ?_) ?_ hll
                      · rw [g2, Nat.zero_add]; simp only [Blk.cells]; rw [List.getElem?_append_left (List.getElem?_eq_some_iff.1 hi).1]; exact hi
                      · rw [g2]; simp [Blk.cells]
                    rw [if_pos ⟨trivial, hes, by rw [g2]; simp [Blk.cells]; omega, by rw [g2]; rfl⟩, if_neg hm0, if_neg (by rw [g2]; simpa [Blk.cells] using hfit), if_pos ⟨trivial, trivial, hle⟩, hrd]
                    simp
                  have hs' : Stay L.F H L.F ((H.al (ls ++ cs)).no X) := ⟨Nat.le_succ _, fun _ h => h, fun Y hY => by rw [no_other (hst Y hY)]; exact al_old (h.fl Y hY)⟩
                  refine ⟨_, _, _, did_more h hvapp (Nat.le_succ _) (fun Y hY => by simp only [AH.no, AH.al] at hY ⊢; rw [if_neg (by omega), if_neg (by omega)]; exact h.wf Y (by omega)) (fun Y hY hYT => ?_) hT ⟨.inr ⟨H.nx, fun hF => by have := h.fl _ hF; omega, ls ++ cs, [], Nat.lt_succ_self _, ?_, RcE.mono hs' _ _ (g3.app hm), .inl ⟨rfl, hes⟩⟩, rfl⟩ rfl (fun Y hY _ => ?_) hTo⟩
                  · rw [no_other (fun e => hYT b (by simp [ptch]) h0 (by rw [hX, e]))]; exact al_old hY
                  · rw [no_other (by omega), List.append_nil]; exact al_new
                  · simp only [AV.bk, Option.some.injEq] at hY
                    exact .inr (by omega)
              · by_cases hfit : l'.length + m.length ≤ c
                · have hsub : (c - l'.length) * es' = (c - (l' ++ m).length) * es' + cs.length := by
                    rw [hcl, ← Nat.add_mul, List.length_append]; congr 1; omega
                  refine place (.sl X 0 (l' ++ m).length c) rfl rfl (by omega) ?_ (.inr ⟨c, by simpa using hfit, rfl, by rw [List.length_drop]; omega⟩)
                  rw [g4]; simp only [vapp, if_neg hm0]
                  rw [if_pos hfit, Nat.zero_add, ← hll, wr_rw' g2 (by simp; omega)]
                  simp
                · have hvapp : vapp es' bytes H (L.m b) m.length cs = some (.sg H.nx 0 0 (l' ++ m).length es', H.al (ls ++ cs)) := by
                    rw [g4]; simp only [vapp, if_neg hm0]
                    have hrd : H.rd X 0 (l'.length * es') = some ls := by
                      refine rd_at (fun i v hi => ?_) ?_ hll
                      · rw [g2, Nat.zero_add]; simp only [Blk.cells]; rw [List.getElem?_append_left (List.getElem?_eq_some_iff.1 hi).1]; exact hi
                      · rw [g2]; simp [Blk.cells]
                    rw [if_neg hfit, if_pos hle, hrd]
                    simp
                  have hs' : Stay L.F H L.F (H.al (ls ++ cs)) := ⟨Nat.le_succ _, fun _ h => h, fun Y hY => al_old (h.fl Y hY)⟩
                  refine ⟨_, _, _, did_more h hvapp (Nat.le_succ _) (al_wf h.wf) (fun Y hY hYT => al_old hY) hT ⟨.inr ⟨H.nx, fun hF => by have := h.fl _ hF; omega, ls ++ cs, [], Nat.lt_succ_self _, by rw [List.append_nil]; exact al_new, RcE.mono hs' _ _ (g3.app hm), .inl ⟨rfl, hes⟩⟩, rfl⟩ rfl (fun Y hY _ => ?_) hTo⟩
                  simp only [AV.bk, Option.some.injEq] at hY
                  exact .inr (by omega)
        · cases hb
      · cases hb
    · cases hb
  · cases hv
end
end Go.AX
