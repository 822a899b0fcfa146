/- Parts: TeJ TeJb TeK TeL TeM TeN. -/
import Derived.Test.YtbflhammcjihgaaGreatGeA
import Derived.Test.YtbflhammcjihgaaGreatGyB
set_option linter.unusedSimpArgs false
set_option linter.unusedVariables false
section
namespace Go.AX
open Go
inductive AC where
 | skip
 | reg (l : List ROper)
 | regd (l : RL)
 | seq (a b : AC)
 | cond (c : Opd) (a b : AC)
 | block (id : Nat) (a : AC)
 | loop (s : StK) (a : AC)
 | exit (id : Nat)
 | ret
 | join (s : StK) (a : AC)
 | dfr (l : List ROper) (x : Opd) (r : AC)
def AC.er : AC → RC
 | .skip => .skip
 | .reg l => .reg l
 | .regd l => .regd (mkR l)
 | .seq a b => .seq a.er b.er
 | .cond c a b => .cond c a.er b.er
 | .block id a => .block id a.er
 | .loop _ a => .loop a.er
 | .exit id => .exit id
 | .ret => .ret
 | .join _ a => a.er
 | .dfr l x r => .seq (.reg (l ++ [⟨none, none, .dfr x []⟩])) r.er
def FUEL : Nat := 4611686018427387904
def loopN {σ O : Type} : Nat → (σ → Option (σ ⊕ O)) → σ → Option O
 | 0, _, _ => none
 | n + 1, f, s => match f s with | some (.inl s) => loopN n f s | some (.inr o) => some o | none => none
def LOOP {σ O : Type} (f : σ → Option (σ ⊕ O)) (s : σ) : Option O := loopN FUEL f s
def fixN {A R : Type} : Nat → ((A → Option R) → A → Option R) → A → Option R
 | 0, _, _ => none
 | n + 1, F, x => F (fixN n F) x
def FIX {A R : Type} (F : (A → Option R) → A → Option R) (x : A) : Option R := fixN FUEL F x
abbrev LPT := (σ O : Type) → (σ → Option (σ ⊕ O)) → σ → Option O
def LOOPx : LPT := fun _ _ f s => LOOP f s
structure EnvT where
 LP : LPT
 cs : List CalF
 K : Nat
 hn : List (Nat × Ty)
 ps : List CalP
def tyOf : List (Nat × Ty) → Option Nat → Option Ty
 | _, none => none
 | [], _ => none
 | x :: r, some d => bif Nat.beq x.1 d then some x.2 else tyOf r (some d)
abbrev Ko (O : Type) := TE → List TB → Option O
structure Kr (O : Type) where
 r : Ko O
 p : TV → Ko O
section
variable {P : Program}
def hasNm : TV → Bool
 | v => !(v.pv.cld)
def closeA (K : Nat) : List SK → List Opd → TE → List TB → TE × List TB
 | s :: ss, x :: xs, E, B => match x with
  | .t t => bif s.cld && hasNm (E.get t) then closeA K ss xs (closeT K t E B).1 (closeT K t E B).2 else closeA K ss xs E B
  | _ => closeA K ss xs E B
 | _, _, E, B => (E, B)
theorem closeA_ok {K : Nat} : ∀ {ss : List SK} {xs : List Opd} {E : TE} {B : List TB}, Wk K E.pv (pvB B) (closeA K ss xs E B).1.pv (pvB (closeA K ss xs E B).2)
 | [], _, E, B => by unfold closeA; exact Wk.refl
 | s :: ss, [], E, B => by unfold closeA; exact Wk.refl
 | s :: ss, x :: xs, E, B => by
  unfold closeA
  split
  ·rename_i t
   cases hc : s.cld && hasNm (E.get t) with
   | true => rw [cond_true]; exact Wk.trans closeT_ok closeA_ok
   | false => rw [cond_false]; exact closeA_ok
  ·exact closeA_ok
def fnParts (E : TE) (f : FuncId) : Option Opd → Option (List TV × List TV)
 | none => some ([], [])
 | some x => match tev E x with | .fn (.func g) pa ca => bif Nat.beq g f then some (pa, ca) else none | _ => none
def rvCase {O : Type} : (l : List StK) → RV l → (TV → List TB → Option O) → Option O
 | [], y, _ => nomatch y
 | [s], y, k => k (ttup (stV s y)) (s.B y)
 | s :: t :: r, y, k => match y with | .inl y => k (ttup (stV s y)) (s.B y) | .inr y => rvCase (t :: r) y k
theorem rvCase_eq {O : Type} : ∀ {l : List StK} {y : RV l} {k : TV → List TB → Option O}, rvCase l y k = k (rvOut l y).1 (rvOut l y).2
 | [], y, _ => nomatch y
 | [s], y, k => rfl
 | s :: t :: r, .inl y, k => rfl
 | s :: t :: r, .inr y, k => by simp only [rvCase, rvOut]; exact rvCase_eq
def callK {O : Type} (K : Nat) : List CalF → FuncId → Option Opd → List Opd → TE → List TB → (TV → List Nat → TE → List TB → List TB → Option O) → Option O
 | [], _, _, _, _, _, _ => none
 | c :: cs, f, fx, args, E, B, k => bif Nat.beq c.f f then
   (bif lendR c.sg.r && c.sg.a.bs.isEmpty then
    (match fnParts E f fx with
    | some pc => match callL c.sg (pc.1 ++ (tevL E args ++ pc.2)) B with
     | some (b, x) => bif b then (c.g x).bind fun y => rvCase c.sg.r y fun v _ => k v [] E B B else none
     | none => callK K cs f fx args E B k
    | none => none)
   else
    (match closeA K ((tsL c.sg.a.ts).drop (match fnParts E f fx with | some pc => pc.1.length | none => 0)) args E B with
    | (E', B') => match fnParts E' f fx with
     | some pc => match callF c.sg (rhoC c.sg (pc.1 ++ (tevL E' args ++ pc.2)) B') (pc.1 ++ (tevL E' args ++ pc.2)) B' with
      | some (b, x) => bif b then (c.g x).bind fun y => rvCase c.sg.r y fun v Bo => k (v.ren (sgm (rhoC c.sg (pc.1 ++ (tevL E' args ++ pc.2)) B') B'.length)) (rhoC c.sg (pc.1 ++ (tevL E' args ++ pc.2)) B') E' B' (outB (rhoC c.sg (pc.1 ++ (tevL E' args ++ pc.2)) B') B' Bo) else none
      | none => callK K cs f fx args E B k
     | none => none))
  else callK K cs f fx args E B k
theorem callK_ok {O : Type} {K : Nat} : ∀ {cs : List CalF} (hcs : ∀ c ∈ cs, CalF.ok P c) {f : FuncId} {fx : Option Opd} {args : List Opd} {E : TE} {B : List TB} {k : TV → List Nat → TE → List TB → List TB → Option O} {o : O}, callK K cs f fx args E B k = some o →
  ∃ E' B' pa ca v T B2, Wk K E.pv (pvB B) E'.pv (pvB B') ∧ fnParts E' f fx = some (pa, ca) ∧ Bd P f ∧ PCall P f (pvB B') (TV.pvL (pa ++ (tevL E' args ++ ca))) (pvB B2) v.pv T ∧ k v T E' B' B2 = some o
 | [], _, f, fx, args, E, B, k, o, h => by simp [callK] at h
 | c :: cs, hcs, f, fx, args, E, B, k, o, h => by
  have cok := hcs c (List.mem_cons_self ..)
  have hcs' : ∀ c ∈ cs, CalF.ok P c := fun c hc => hcs c (List.mem_cons_of_mem _ hc)
  unfold callK at h
  cases hf : Nat.beq c.f f with
  | false => rw [hf, cond_false] at h; exact callK_ok hcs' h
  | true =>
   rw [hf, cond_true] at h
   have hf := beq_t hf
   subst hf
   cases hl : lendR c.sg.r && c.sg.a.bs.isEmpty with
   | true =>
    rw [hl, cond_true] at h
    split at h
    ·rename_i pc hp
     obtain ⟨pa, ca⟩ := pc
     split at h
     ·rename_i b x hx
      replace h := bif_some h
      obtain ⟨hb, h⟩ := h
      rw [Option.bind_eq_some_iff] at h
      obtain ⟨y, hy, h⟩ := h
      rw [rvCase_eq] at h
      exact ⟨E, B, pa, ca, _, [], B, Wk.refl, hp, cok.1, callL_ok cok hx hb hy, h⟩
     ·exact callK_ok hcs' h
    ·cases h
   | false =>
    rw [hl, cond_false] at h
    generalize hEB : closeA K ((tsL c.sg.a.ts).drop (match fnParts E c.f fx with | some pc => pc.1.length | none => 0)) args E B = EB at h
    obtain ⟨E', B'⟩ := EB
    simp only at h
    have hw := closeA_ok (K := K) (ss := (tsL c.sg.a.ts).drop (match fnParts E c.f fx with | some pc => pc.1.length | none => 0)) (xs := args) (E := E) (B := B)
    rw [hEB] at hw
    split at h
    ·rename_i pc hp
     obtain ⟨pa, ca⟩ := pc
     split at h
     ·rename_i b x hx
      replace h := bif_some h
      obtain ⟨hb, h⟩ := h
      rw [Option.bind_eq_some_iff] at h
      obtain ⟨y, hy, h⟩ := h
      rw [rvCase_eq] at h
      exact ⟨E', B', pa, ca, _, _, _, hw, hp, cok.1, callF_ok cok hx hb hy, h⟩
     ·exact callK_ok hcs' h
    ·cases h
def hasP : List CalP → FuncId → Bool
 | [], _ => false
 | c :: cs, f => bif Nat.beq c.f f then true else hasP cs f
def pnCase {A E O : Type} (z : A ⊕ E) (k : A → Option O) (kp : E → Option O) : Option O := match z with | .inl y => k y | .inr e => kp e
def callKP {O : Type} (K : Nat) : List CalP → FuncId → Option Opd → List Opd → TE → List TB → (TV → TE → List TB → Option O) → (TV → TE → List TB → Option O) → Option O
 | [], _, _, _, _, _, _, _ => none
 | c :: cs, f, fx, args, E, B, k, kp => bif Nat.beq c.f f then
   (bif lendR c.sg.r && c.sg.a.bs.isEmpty then
    (match fnParts E f fx with
    | some pc => match callL c.sg (pc.1 ++ (tevL E args ++ pc.2)) B with
     | some (b, x) => bif b then (c.g x).bind fun z => pnCase z (fun y => rvCase c.sg.r y fun v _ => k v E B) (fun e => kp (fill c.p e) E B) else none
     | none => callKP K cs f fx args E B k kp
    | none => none)
   else
    (match closeA K ((tsL c.sg.a.ts).drop (match fnParts E f fx with | some pc => pc.1.length | none => 0)) args E B with
    | (E', B') => match fnParts E' f fx with
     | some pc => match callF c.sg (rhoC c.sg (pc.1 ++ (tevL E' args ++ pc.2)) B') (pc.1 ++ (tevL E' args ++ pc.2)) B' with
      | some (b, x) => bif b then (c.g x).bind fun z => pnCase z (fun y => rvCase c.sg.r y fun v Bo => k (v.ren (sgm (rhoC c.sg (pc.1 ++ (tevL E' args ++ pc.2)) B') B'.length)) E' (outB (rhoC c.sg (pc.1 ++ (tevL E' args ++ pc.2)) B') B' Bo)) (fun e => kp (fill c.p e) E' (outB (rhoC c.sg (pc.1 ++ (tevL E' args ++ pc.2)) B') B' (pnB c.sg.a.bs.length))) else none
      | none => callKP K cs f fx args E B k kp
     | none => none))
  else callKP K cs f fx args E B k kp
mutual
theorem pren_flat {ρ : Nat → Nat} : ∀ (v : PV), v.flat = true → v.ren ρ = v
 | .bo _, _ | .it _ _, _ | .st _, _ | .np, _ | .nf, _ | .ni, _ | .sn, _ | .dd, _ => rfl
 | .fc t v, h => by simp only [PV.flat] at h; simp only [PV.ren, pren_flat v h]
 | .ag l, h => by simp only [PV.flat] at h; simp only [PV.ren, prenL_flat l h]
 | .tu l, h => by simp only [PV.flat] at h; simp only [PV.ren, prenL_flat l h]
 | .vs _ _ _, h | .pe _ _, h | .pt _ _, h | .pg _ _ _ _, h | .gr _, h | .gp _ _ _ _, h | .fn _ _ _, h => by simp [PV.flat] at h
theorem prenL_flat {ρ : Nat → Nat} : ∀ (l : List PV), PV.flatL l = true → PV.renL ρ l = l
 | [], _ => rfl
 | v :: r, h => by
  simp only [PV.flatL, Bool.and_eq_true] at h
  simp only [PV.renL, pren_flat v h.1, prenL_flat r h.2]
end
theorem ren_flat {ρ : Nat → Nat} : ∀ (s : SK) (x : Val s.den), s.flat = true → ((fill s x).ren ρ).pv = (fill s x).pv := by
 intro s x h
 rw [ren_pv, pren_flat _ (fill_flat s x h)]
theorem callKP_ok {O : Type} {K : Nat} : ∀ {cs : List CalP} (hcs : ∀ c ∈ cs, CalP.ok P c) {f : FuncId} {fx : Option Opd} {args : List Opd} {E : TE} {B : List TB} {k kp : TV → TE → List TB → Option O} {o : O}, callKP K cs f fx args E B k kp = some o →
  ∃ E' B' pa ca v T B2, Wk K E.pv (pvB B) E'.pv (pvB B') ∧ fnParts E' f fx = some (pa, ca) ∧ Bd P f ∧
   ((PCall P f (pvB B') (TV.pvL (pa ++ (tevL E' args ++ ca))) (pvB B2) v.pv T ∧ k v E' B2 = some o) ∨ (PCallP P f (pvB B') (TV.pvL (pa ++ (tevL E' args ++ ca))) (pvB B2) v.pv T ∧ kp v E' B2 = some o))
 | [], _, f, fx, args, E, B, k, kp, o, h => by simp [callKP] at h
 | c :: cs, hcs, f, fx, args, E, B, k, kp, o, h => by
  have cok := hcs c (List.mem_cons_self ..)
  have hcs' : ∀ c ∈ cs, CalP.ok P c := fun c hc => hcs c (List.mem_cons_of_mem _ hc)
  unfold callKP at h
  cases hf : Nat.beq c.f f with
  | false => rw [hf, cond_false] at h; exact callKP_ok hcs' h
  | true =>
   rw [hf, cond_true] at h
   have hf := beq_t hf
   subst hf
   cases hl : lendR c.sg.r && c.sg.a.bs.isEmpty with
   | true =>
    rw [hl, cond_true] at h
    rw [Bool.and_eq_true, List.isEmpty_iff] at hl
    split at h
    ·rename_i pc hp
     obtain ⟨pa, ca⟩ := pc
     split at h
     ·rename_i b x hx
      replace h := bif_some h
      obtain ⟨hb, h⟩ := h
      rw [Option.bind_eq_some_iff] at h
      obtain ⟨z, hz, h⟩ := h
      cases z with
      | inl y =>
       simp only [pnCase] at h
       rw [rvCase_eq] at h
       obtain ⟨hfl, hB⟩ := lendR_ok (y := y) hl.1
       have hc := cok.ret x y hz
       rw [hB] at hc
       exact ⟨E, B, pa, ca, _, [], B, Wk.refl, hp, cok.bd, .inl ⟨callL_gen hx hb hc hfl, h⟩⟩
      | inr e =>
       simp only [pnCase] at h
       have hc := cok.pan x e hz
       rw [hl.2] at hc
       exact ⟨E, B, pa, ca, _, [], B, Wk.refl, hp, cok.bd, .inr ⟨callL_gen hx hb hc (fill_flat _ _ cok.fl), h⟩⟩
     ·exact callKP_ok hcs' h
    ·cases h
   | false =>
    rw [hl, cond_false] at h
    generalize hEB : closeA K ((tsL c.sg.a.ts).drop (match fnParts E c.f fx with | some pc => pc.1.length | none => 0)) args E B = EB at h
    obtain ⟨E', B'⟩ := EB
    simp only at h
    have hw := closeA_ok (K := K) (ss := (tsL c.sg.a.ts).drop (match fnParts E c.f fx with | some pc => pc.1.length | none => 0)) (xs := args) (E := E) (B := B)
    rw [hEB] at hw
    split at h
    ·rename_i pc hp
     obtain ⟨pa, ca⟩ := pc
     split at h
     ·rename_i b x hx
      replace h := bif_some h
      obtain ⟨hb, h⟩ := h
      rw [Option.bind_eq_some_iff] at h
      obtain ⟨z, hz, h⟩ := h
      have hx9 := hx
      unfold callF at hx9
      replace hx9 := bif_some hx9
      obtain ⟨h0, _⟩ := hx9
      simp only [Bool.and_eq_true] at h0
      have k3 := beq_t h0.2.2.1
      cases z with
      | inl y =>
       simp only [pnCase] at h
       rw [rvCase_eq] at h
       have k4 := geR_ok (y := y) h0.2.2.2
       exact ⟨E', B', pa, ca, _, _, _, hw, hp, cok.bd, .inl ⟨callF_gen hx hb (cok.ret x y hz) (by rw [← k3]; exact k4), h⟩⟩
      | inr e =>
       simp only [pnCase] at h
       have hc := callF_gen hx hb (cok.pan x e hz) (by simp [pnB])
       rw [ren_flat _ _ cok.fl] at hc
       exact ⟨E', B', pa, ca, _, _, _, hw, hp, cok.bd, .inr ⟨hc, h⟩⟩
     ·exact callKP_ok hcs' h
    ·cases h
def closeP (K : Nat) : List Part → TE → List TB → TE × List TB
 | [], E, B => (E, B)
 | p :: r, E, B => match p.x with
  | .t t => bif hasNm (E.get t) then closeP K r (closeT K t E B).1 (closeT K t E B).2 else closeP K r E B
  | _ => closeP K r E B
theorem closeP_ok {K : Nat} : ∀ {ps : List Part} {E : TE} {B : List TB}, Wk K E.pv (pvB B) (closeP K ps E B).1.pv (pvB (closeP K ps E B).2)
 | [], E, B => Wk.refl
 | p :: r, E, B => by
  unfold closeP
  split
  ·rename_i t _
   cases hc : hasNm (E.get t) with
   | true => rw [cond_true]; exact Wk.trans closeT_ok closeP_ok
   | false => rw [cond_false]; exact closeP_ok
  ·exact closeP_ok
def preO (K : Nat) (vo : VOp) (E : TE) (B : List TB) : TE × List TB :=
 match vo with
 | .bsl _ _ ps => closeP K ps E B
 | .sto _ a x => match tev E a, x with
  | .pg _ _ _ _, .t t => bif hasNm (E.get t) then closeT K t E B else (E, B)
  | _, _ => (E, B)
 | _ => (E, B)
theorem preO_ok {K : Nat} {vo : VOp} {E : TE} {B : List TB} : Wk K E.pv (pvB B) (preO K vo E B).1.pv (pvB (preO K vo E B).2) := by
 unfold preO
 split
 ·exact closeP_ok
 ·split
  ·rename_i t _
   cases hc : hasNm (E.get t) with
   | true => rw [cond_true]; exact closeT_ok
   | false => rw [cond_false]; exact Wk.refl
  ·exact Wk.refl
 ·exact Wk.refl
def evV {O : Type} (V : EnvT) (d : Option Nat) (vo : VOp) (E : TE) (B : List TB) (k : TE → List TB → TV → List TB → Option O) : Option O :=
 match preO V.K vo E B with
 | (E, B) => match top (tyOf V.hn d) vo E B with
  | some (c, v, B') => bif c then k E B v B' else none
  | none => none
theorem evV_ok {O : Type} {V : EnvT} {d : Option Nat} {vo : VOp} {E : TE} {B : List TB} {k : TE → List TB → TV → List TB → Option O} {o : O} (h : evV V d vo E B k = some o) :
  ∃ E1 B1 v B2 v1 B3, Wk V.K E.pv (pvB B) E1.pv (pvB B1) ∧ pop vo E1.pv (pvB B1) = some (v1, B3) ∧ Vle v1 v.pv ∧ Ble B3 (pvB B2) ∧ k E1 B1 v B2 = some o := by
 unfold evV at h
 have hw := preO_ok (K := V.K) (vo := vo) (E := E) (B := B)
 generalize preO V.K vo E B = EB at h hw
 obtain ⟨E1, B1⟩ := EB
 simp only at h hw
 split at h
 ·rename_i c v B' ht
  replace h := bif_some h
  obtain ⟨hc, h⟩ := h
  obtain ⟨v1, B3, h1, h2, h3⟩ := top_ok ht hc
  exact ⟨E1, B1, v, B', v1, B3, hw, h1, h2, h3, h⟩
 ·cases h
def evO {O : Type} (V : EnvT) (d : Option Nat) (o : ROp) (E : TE) (B : List TB) (k : Ko O) (rt : Kr O) : Option O :=
 match o with
 | .v vo => match tcut (tyOf V.hn d) vo E B with
  | some (c, v, B') => bif c then k (E.put d v) B' else none
  | none => evV V d vo E B fun E _ v B' => k (E.put d v) B'
 | .call f args => bif hasP V.ps f then callKP V.K V.ps f none args E B (fun v E B' => k (E.put d v) B') rt.p else callK V.K V.cs f none args E B fun v _ E _ B' => k (E.put d v) B'
 | .calv x args => match tev E x with
  | .fn (.func f) _ _ => bif hasP V.ps f then callKP V.K V.ps f (some x) args E B (fun v E B' => k (E.put d v) B') rt.p else callK V.K V.cs f (some x) args E B fun v _ E _ B' => k (E.put d v) B'
  | _ => none
 | .pan x => match tev E x with
  | .fc t v => rt.p (.fc t v) E B
  | _ => none
 | _ => none
def selB (b c : Bool) : Bool := match b with | true => c | false => !c
def putG (E : TE) (t : Nat) (b : Bool) : TE := (t, .bo b) :: E
def evR {O : Type} (V : EnvT) : List ROper → TE → List TB → Ko O → Kr O → Option O
 | [], E, B, k, _ => k E B
 | ⟨d, none, o⟩ :: r, E, B, k, rt => evO V d o E B (fun E B => evR V r E B k rt) rt
 | ⟨d, some (t, b), o⟩ :: r, E, B, k, rt => match E.get t with
  | .bo c => bif selB b c then evO V d o (putG E t b) B (fun E B => evR V r E B k rt) rt else evR V r ((putG E t (!b)).put d (.tu [])) B k rt
  | .tu [] => evR V r (E.put d (.tu [])) B k rt
  | _ => none
def gchk (E : TE) : Option (Nat × Bool) → Bool
 | none => true
 | some (t, b) => match E.get t with | .bo c => selB b c | _ => false
def evDO {O : Type} (V : EnvT) (l : RL) (q : Nat) (ck : Bool) (g : Option (Nat × Bool)) (d : Option Nat) (o : ROp) (E : TE) (B : List TB) (k : Ko O) : Option O :=
 match o with
 | .v vo => evV V d vo E B fun E B v B' => bif gchk E g && chgOK ck l q E B [] (tch E.pv vo) then k (E.put d v) B' else none
 | .call f args => callK V.K V.cs f none args E B fun v T E B B' => bif gchk E g && chgOK ck l q E B B' T then k (E.put d v) B' else none
 | .calv x args => match tev E x with
  | .fn (.func f) _ _ => callK V.K V.cs f (some x) args E B fun v T E B B' => bif gchk E g && chgOK ck l q E B B' T then k (E.put d v) B' else none
  | _ => none
 | _ => none
def evD {O : Type} (V : EnvT) (l : RL) : Nat → RL → TE → List TB → Ko O → Option O
 | _, [], E, B, k => k E B
 | q, (⟨d, none, o⟩, rk, ck) :: r, E, B, k => evDO V l q ck none d o E B fun E B => evD V l (q + 1) r E B k
 | q, (⟨d, some (t, b), o⟩, rk, ck) :: r, E, B, k => match E.get t with
  | .bo c => bif selB b c then evDO V l q ck (some (t, b)) d o (putG E t b) B (fun E B => evD V l (q + 1) r E B k) else evD V l (q + 1) r ((putG E t (!b)).put d (.tu [])) B k
  | .tu [] => evD V l (q + 1) r (E.put d (.tu [])) B k
  | _ => none
def exMap {O O' : Type} (f : Option O → Option O') : List (Nat × Ko O) → List (Nat × Ko O')
 | [] => []
 | x :: r => (x.1, fun E B => f (x.2 E B)) :: exMap f r
def exFind {O : Type} : List (Nat × Ko O) → Nat → Option (Ko O)
 | [], _ => none
 | x :: r, i => bif Nat.beq x.1 i then some x.2 else exFind r i
def inR {A O : Type} : Option O → Option (A ⊕ O)
 | some o => some (.inr o)
 | none => none
def inL {A O : Type} : Option (Bool × A) → Option (A ⊕ O)
 | some (c, x) => bif c then some (.inl x) else none
 | none => none
def Kr.inR {A O : Type} (k : Kr O) : Kr (A ⊕ O) := ⟨fun E B => Go.AX.inR (k.r E B), fun v E B => Go.AX.inR (k.p v E B)⟩
def evC (V : EnvT) : AC → (O : Type) → TE → List TB → Ko O → List (Nat × Ko O) → Kr O → Option O
 | .skip, _, E, B, k, _, _ => k E B
 | .reg l, _, E, B, k, _, rt => evR V l E B k rt
 | .regd l, _, E, B, k, _, _ => bif mkRok l then evD V l 0 l E B k else none
 | .seq a b, O, E, B, k, ex, rt => evC V a O E B (fun E B => evC V b O E B k ex rt) ex rt
 | .cond c a b, O, E, B, k, ex, rt => match tev E c with
  | .bo x => match c with
   | .t t => bif x then evC V a O (putG E t true) B k ex rt else evC V b O (putG E t false) B k ex rt
   | _ => bif x then evC V a O E B k ex rt else evC V b O E B k ex rt
  | _ => none
 | .block i a, O, E, B, k, ex, rt => evC V a O E B k ((i, k) :: ex) rt
 | .loop s a, O, E, B, k, ex, rt => match mtSt V.K s E B with
  | some (c, x) => bif c then V.LP (Val s.den) O (fun y => evC V a (Val s.den ⊕ O) (s.E y) (s.B y) (fun E B => inL (mtSt V.K s E B)) (exMap inR ex) rt.inR) x else none
  | none => none
 | .exit i, _, E, B, _, ex, _ => match exFind ex i with | some k => k E B | none => none
 | .ret, _, E, B, _, _, rt => rt.r E B
 | .join s a, O, E, B, k, ex, rt => (evC V a (Val s.den ⊕ O) E B (fun E B => inL (mtSt V.K s E B)) (exMap inR ex) rt.inR).bind fun z => match z with | .inl y => k (s.E y) (s.B y) | .inr o => some o
 | .dfr _ _ _, _, _, _, _, _, _ => none
end
section
def HRT {O : Type} (R : PEnd) (Good : O → Prop) (rt : Kr O) : Prop := (∀ E B o, rt.r E B = some o → Good o → R none E.pv (pvB B)) ∧ ∀ v E B o, rt.p v E B = some o → Good o → R (some v.pv) E.pv (pvB B)
variable {P : Program} {V : EnvT} {R : PEnd} (hcs : (∀ c ∈ V.cs, CalF.ok P c) ∧ ∀ c ∈ V.ps, CalP.ok P c)
theorem putG_pv {E : TE} {t : Nat} {b : Bool} (h : E.get t = .bo b) : (putG E t b).pv = E.pv := by
 funext u
 simp only [putG, TE.pv, TE.get]
 cases hb : Nat.beq t u with
 | true => have := beq_t hb; subst this; rw [cond_true, h]
 | false => rw [cond_false]
theorem Wk_op {K : Nat} {E : TE} {d : Option Nat} {v1 : PV} {v : TV} {B1 : List PB} {B2 : List TB} (h : Vle v1 v.pv) (hB : Ble B1 (pvB B2)) : Wk K (E.pv.put d v1) B1 (E.put d v).pv (pvB B2) := by
 rw [put_pv]
 refine Wk_le (fun t => ?_) hB
 cases d with
 | none => exact Vle.refl _
 | some d =>
  simp only [PE0.put, PE0.st]
  split
  ·exact h
  ·exact Vle.refl _
theorem fnParts_x {E : TE} {f : FuncId} {x : Opd} {pa ca : List TV} (h : fnParts E f (some x) = some (pa, ca)) : pev E.pv x = .fn (.func f) (TV.pvL pa) (TV.pvL ca) := by
 simp only [fnParts] at h
 split at h
 ·rename_i g p c he
  replace h := bif_some h
  obtain ⟨h1, h2⟩ := h
  have := beq_t h1
  subst this
  cases h2
  rw [← tev_pv, he]; rfl
 ·cases h
include hcs in
theorem evO_ok {O : Type} {Good : O → Prop} {d : Option Nat} {op : ROp} {r : List ROper} {kk : List It} {E : TE} {B : List TB} {k : Ko O} {rt : Kr O} {o : O} (hrt : HRT R Good rt) (hk : ∀ E B, k E B = some o → Good o → Y P V.K R (.o r :: kk) E.pv (pvB B))
  (h : evO V d op E B k rt = some o) (hg : Good o) : Y P V.K R (.o (⟨d, none, op⟩ :: r) :: kk) E.pv (pvB B) := by
 unfold evO at h
 split at h
 ·split at h
  ·rename_i c v B' hcut
   replace h := bif_some h
   obtain ⟨hc, h⟩ := h
   obtain ⟨es, x, hi, b, k2, n, l, rfl, g1, g2, g3, g4, g5, g6⟩ := tcut_ok hcut hc
   refine Y_cut g1 g2 g3 g4 ?_
   have := hk _ _ h hg
   rw [put_pv, g5, g6] at this
   exact this
  ·obtain ⟨E1, B1, v, B2, v1, B3, h1, h2, h3, h4, h5⟩ := evV_ok h
   exact Y_wk h1 (Y_op h2 (Y_wk (Wk_op h3 h4) (hk _ _ h5 hg)))
 ·rename_i f args
  cases hp : hasP V.ps f with
  | true =>
   rw [hp, cond_true] at h
   obtain ⟨E', B', pa, ca, v, T, B2, h1, h2, h3, ⟨h4, h5⟩ | ⟨h4, h5⟩⟩ := callKP_ok hcs.2 h
   ·simp only [fnParts, Option.some.injEq, Prod.mk.injEq] at h2
    obtain ⟨rfl, rfl⟩ := h2
    rw [List.nil_append, List.append_nil, tevL_pv] at h4
    refine Y_wk h1 (Y_call h4 ?_)
    have := hk _ _ h5 hg
    rw [put_pv] at this
    exact this
   ·simp only [fnParts, Option.some.injEq, Prod.mk.injEq] at h2
    obtain ⟨rfl, rfl⟩ := h2
    rw [List.nil_append, List.append_nil, tevL_pv] at h4
    exact Y_wk h1 (Y_callp h4 (hrt.2 _ _ _ _ h5 hg))
  | false =>
   rw [hp, cond_false] at h
   obtain ⟨E', B', pa, ca, v, T, B2, h1, h2, h3, h4, h5⟩ := callK_ok hcs.1 h
   simp only [fnParts, Option.some.injEq, Prod.mk.injEq] at h2
   obtain ⟨rfl, rfl⟩ := h2
   rw [List.nil_append, List.append_nil, tevL_pv] at h4
   refine Y_wk h1 (Y_call h4 ?_)
   have := hk _ _ h5 hg
   rw [put_pv] at this
   exact this
 ·rename_i x args
  split at h
  ·rename_i f p c hx
   cases hp : hasP V.ps f with
   | true =>
    rw [hp, cond_true] at h
    obtain ⟨E', B', pa, ca, v, T, B2, h1, h2, h3, ⟨h4, h5⟩ | ⟨h4, h5⟩⟩ := callKP_ok hcs.2 h
    ·rw [pvL_app, pvL_app, tevL_pv, ← List.append_assoc] at h4
     refine Y_wk h1 (Y_calv (fnParts_x h2) h3 h4 ?_)
     have := hk _ _ h5 hg
     rw [put_pv] at this
     exact this
    ·rw [pvL_app, pvL_app, tevL_pv, ← List.append_assoc] at h4
     exact Y_wk h1 (Y_calvp (fnParts_x h2) h3 h4 (hrt.2 _ _ _ _ h5 hg))
   | false =>
    rw [hp, cond_false] at h
    obtain ⟨E', B', pa, ca, v, T, B2, h1, h2, h3, h4, h5⟩ := callK_ok hcs.1 h
    rw [pvL_app, pvL_app, tevL_pv, ← List.append_assoc] at h4
    refine Y_wk h1 (Y_calv (fnParts_x h2) h3 h4 ?_)
    have := hk _ _ h5 hg
    rw [put_pv] at this
    exact this
  ·cases h
 ·rename_i x
  split at h
  ·rename_i t v hx
   refine Y_pan (t := t) (v := v.pv) (by rw [← tev_pv, hx]; rfl) ?_
   exact hrt.2 (.fc t v) _ _ _ h hg
  ·cases h
 ·cases h
include hcs in
theorem evR_ok {O : Type} {Good : O → Prop} {kk : List It} {k : Ko O} {rt : Kr O} {o : O} (hrt : HRT R Good rt) (hk : ∀ E B, k E B = some o → Good o → Y P V.K R kk E.pv (pvB B)) : ∀ {l : List ROper} {E : TE} {B : List TB}, evR V l E B k rt = some o → Good o → Y P V.K R (.o l :: kk) E.pv (pvB B)
 | [], E, B, h, hg => Y_same (fun Rx Ea H _ => X_onil) (hk E B h hg)
 | ⟨d, none, op⟩ :: r, E, B, h, hg => by
  unfold evR at h
  exact evO_ok hcs (Good := Good) hrt (fun E B h hg => evR_ok hrt hk h hg) h hg
 | ⟨d, some (t, b), op⟩ :: r, E, B, h, hg => by
  unfold evR at h
  split at h
  ·rename_i c hc
   have hc' : E.pv t = .bo c := by simp only [TE.pv, hc, TV.pv]
   refine Y_grd hc' (fun e => ?_) (fun e => ?_)
   ·subst e
    have : selB c c = true := by cases c <;> rfl
    rw [this, cond_true] at h
    have := evO_ok hcs (Good := Good) hrt (fun E B h hg => evR_ok hrt hk h hg) h hg
    rw [putG_pv hc] at this
    exact this
   ·have hcb : c = !b := by cases c <;> cases b <;> first | rfl | exact absurd rfl e
    subst hcb
    have : selB b (!b) = false := by cases b <;> rfl
    rw [this, cond_false] at h
    have := evR_ok hrt hk h hg
    rw [put_pv, putG_pv hc] at this
    exact this
  ·rename_i hc
   have hc' : E.pv t = .tu [] := by simp only [TE.pv, hc, TV.pv, TV.pvL]
   refine Y_grt hc' ?_
   have := evR_ok hrt hk h hg
   rw [put_pv] at this
   exact this
  ·cases h
theorem gchk_ok {E : TE} {g : Option (Nat × Bool)} (h : gchk E g = true) : gval E.pv g = some true := by
 cases g with
 | none => rfl
 | some tb =>
  obtain ⟨t, b⟩ := tb
  simp only [gchk] at h
  split at h
  ·rename_i c hc
   simp only [gval, TE.pv, hc, TV.pv]
   cases b <;> cases c <;> first | rfl | cases h
  ·cases h
include hcs in
theorem evDO_ok {O : Type} {Good : O → Prop} {l : RL} {q : Nat} {g : Option (Nat × Bool)} {rk : List Nat} {ck : Bool} {d : Option Nat} {op : ROp} {r : RL} {kk : List It} {E : TE} {B : List TB} {k : Ko O} {o : O}
  (hk : ∀ E B, k E B = some o → Good o → YR P V.K R l (q + 1) r kk E.pv (pvB B))
  (h : evDO V l q ck g d op E B k = some o) (hg : Good o) : YR P V.K R l q ((⟨d, g, op⟩, rk, ck) :: r) kk E.pv (pvB B) := by
 unfold evDO at h
 split at h
 ·obtain ⟨E1, B1, v, B2, v1, B3, h1, h2, h3, h4, h5⟩ := evV_ok h
  replace h5 := bif_some h5
  obtain ⟨h6, h5⟩ := h5
  rw [Bool.and_eq_true] at h6
  exact YR_wk h1 (YR_opC (gchk_ok h6.1) h2 h6.2 (YR_wk (Wk_op h3 h4) (hk _ _ h5 hg)))
 ·rename_i f args
  obtain ⟨E', B', pa, ca, v, T, B2, h1, h2, h3, h4, h5⟩ := callK_ok hcs.1 h
  replace h5 := bif_some h5
  obtain ⟨h6, h5⟩ := h5
  rw [Bool.and_eq_true] at h6
  simp only [fnParts, Option.some.injEq, Prod.mk.injEq] at h2
  obtain ⟨rfl, rfl⟩ := h2
  rw [List.nil_append, List.append_nil, tevL_pv] at h4
  refine YR_wk h1 (YR_callC (gchk_ok h6.1) h4 h6.2 ?_)
  have := hk _ _ h5 hg
  rw [put_pv] at this
  exact this
 ·rename_i x args
  split at h
  ·rename_i f p c hx
   obtain ⟨E', B', pa, ca, v, T, B2, h1, h2, h3, h4, h5⟩ := callK_ok hcs.1 h
   replace h5 := bif_some h5
   obtain ⟨h6, h5⟩ := h5
   rw [Bool.and_eq_true] at h6
   rw [pvL_app, pvL_app, tevL_pv, ← List.append_assoc] at h4
   refine YR_wk h1 (YR_calvC (gchk_ok h6.1) (fnParts_x h2) h3 h4 h6.2 ?_)
   have := hk _ _ h5 hg
   rw [put_pv] at this
   exact this
  ·cases h
 ·cases h
theorem gval_eq {E : TE} {t : Nat} {b c : Bool} (hc : E.get t = .bo c) : gval E.pv (some (t, b)) = some (c == b) := by
 simp only [gval, TE.pv, hc, TV.pv]
include hcs in
theorem evD_ok {O : Type} {Good : O → Prop} {kk : List It} {k : Ko O} {o : O} {l : RL} (hk : ∀ E B, k E B = some o → Good o → Y P V.K R kk E.pv (pvB B)) : ∀ {rem : RL} {q : Nat} {E : TE} {B : List TB}, evD V l q rem E B k = some o → Good o → YR P V.K R l q rem kk E.pv (pvB B)
 | [], q, E, B, h, hg => YR_nil (hk E B h hg)
 | (⟨d, none, op⟩, rk, ck) :: r, q, E, B, h, hg => by
  unfold evD at h
  exact evDO_ok hcs (Good := Good) (fun E B h hg => evD_ok hk h hg) h hg
 | (⟨d, some (t, b), op⟩, rk, ck) :: r, q, E, B, h, hg => by
  unfold evD at h
  split at h
  ·rename_i c hc
   by_cases e : c = b
   ·subst e
    have : selB c c = true := by cases c <;> rfl
    rw [this, cond_true] at h
    have := evDO_ok hcs (Good := Good) (rk := rk) (fun E B h hg => evD_ok hk h hg) h hg
    rw [putG_pv hc] at this
    exact this
   ·have hcb : c = !b := by cases c <;> cases b <;> first | rfl | exact absurd rfl e
    subst hcb
    have : selB b (!b) = false := by cases b <;> rfl
    rw [this, cond_false] at h
    refine YR_skip (by rw [gval_eq hc]; cases b <;> rfl) ?_
    have := evD_ok hk h hg
    rw [put_pv, putG_pv hc] at this
    exact this
  ·rename_i hc
   refine YR_skip (by simp only [gval, TE.pv, hc, TV.pv, TV.pvL]) ?_
   have := evD_ok hk h hg
   rw [put_pv] at this
   exact this
  ·cases h
theorem exFind_map {O O' : Type} {φ : Option O → Option O'} : ∀ {ex : List (Nat × Ko O)} {i : Nat} {kf : Ko O'}, exFind (exMap φ ex) i = some kf → ∃ k0, exFind ex i = some k0 ∧ kf = fun E B => φ (k0 E B)
 | [], i, kf, h => by simp [exMap, exFind] at h
 | x :: r, i, kf, h => by
  simp only [exMap, exFind] at h ⊢
  cases hb : Nat.beq x.1 i with
  | true => rw [hb, cond_true] at h; cases h; exact ⟨_, rfl, rfl⟩
  | false => rw [hb, cond_false] at h; exact exFind_map h
theorem inR_ok {A O : Type} {x : Option O} {o : O} (h : (inR x : Option (A ⊕ O)) = some (.inr o)) : x = some o := by
 cases x with
 | none => cases h
 | some o' => cases h; rfl
theorem inR_ne {A O : Type} {x : Option O} {y : A} (h : (inR x : Option (A ⊕ O)) = some (.inl y)) : False := by
 cases x <;> cases h
theorem inL_ok {A O : Type} {x : Option (Bool × A)} {y : A} (h : (inL x : Option (A ⊕ O)) = some (.inl y)) : x = some (true, y) := by
 unfold inL at h
 split at h
 ·replace h := bif_some h
  obtain ⟨rfl, h⟩ := h
  cases h; rfl
 ·cases h
theorem inL_ne {A O : Type} {x : Option (Bool × A)} {o : O} (h : (inL x : Option (A ⊕ O)) = some (.inr o)) : False := by
 unfold inL at h
 split at h
 ·replace h := bif_some h
  cases h.2
 ·cases h
def GoodS {A O : Type} (g : A → Prop) (Good : O → Prop) : A ⊕ O → Prop
 | .inl y => g y
 | .inr o => Good o
theorem inR_hrt {A O : Type} {g : A → Prop} {Good : O → Prop} {rt : Kr O} (hrt : HRT R Good rt) : HRT R (GoodS g Good) (rt.inR (A := A)) := by
 refine ⟨fun E B o h hg => ?_, fun v E B o h hg => ?_⟩
 ·cases o with
  | inl z => exact (inR_ne h).elim
  | inr z => exact hrt.1 E B z (inR_ok h) hg
 ·cases o with
  | inl z => exact (inR_ne h).elim
  | inr z => exact hrt.2 v E B z (inR_ok h) hg
include hcs in
theorem evC_ok (hLP : V.LP = LOOPx) : ∀ (c : AC) {O : Type} {Good : O → Prop} {kk : List It} {E : TE} {B : List TB} {k : Ko O} {ex : List (Nat × Ko O)} {rt : Kr O} {o : O}
  (hk : ∀ E B o, k E B = some o → Good o → Y P V.K R kk E.pv (pvB B))
  (hex : ∀ i kf, exFind ex i = some kf → ∃ kk', itExit i kk = some kk' ∧ ∀ E B o, kf E B = some o → Good o → Y P V.K R kk' E.pv (pvB B))
  (hrt : HRT R Good rt),
  evC V c O E B k ex rt = some o → Good o → Y P V.K R (.c c.er :: kk) E.pv (pvB B)
 | .skip, O, Good, kk, E, B, k, ex, rt, o, hk, hex, hrt, h, hg => Y_same (fun Rx Ea H _ => X_skip) (hk E B o h hg)
 | .reg l, O, Good, kk, E, B, k, ex, rt, o, hk, hex, hrt, h, hg => Y_same (fun Rx Ea H _ => X_reg) (evR_ok hcs (Good := Good) hrt (fun E B h hg => hk E B o h hg) h hg)
 | .regd l, O, Good, kk, E, B, k, ex, rt, o, hk, hex, hrt, h, hg => by
  unfold evC at h
  replace h := bif_some h
  refine Y_regd h.1 fun l' hl' => ?_
  subst hl'
  exact evD_ok hcs (Good := Good) (fun E B h hg => hk E B o h hg) h.2 hg
 | .seq a b, O, Good, kk, E, B, k, ex, rt, o, hk, hex, hrt, h, hg => by
  unfold evC at h
  refine Y_same (fun Rx Ea H _ => X_seq) ?_
  exact evC_ok hLP a (Good := Good) (fun E B o h hg => evC_ok hLP b hk hex hrt h hg) (fun i kf hf => hex i kf hf) hrt h hg
 | .cond c a b, O, Good, kk, E, B, k, ex, rt, o, hk, hex, hrt, h, hg => by
  unfold evC at h
  split at h
  ·rename_i x hx
   have hx' : pev E.pv c = .bo x := by rw [← tev_pv, hx]; rfl
   split at h
   ·rename_i t
    refine Y_cnd hx' (fun e => ?_) (fun e => ?_)
    ·subst e
     rw [cond_true] at h
     have := evC_ok hLP a hk hex hrt h hg
     rw [putG_pv hx] at this
     exact this
    ·subst e
     rw [cond_false] at h
     have := evC_ok hLP b hk hex hrt h hg
     rw [putG_pv hx] at this
     exact this
   ·refine Y_cnd hx' (fun e => ?_) (fun e => ?_)
    ·subst e
     rw [cond_true] at h
     exact evC_ok hLP a hk hex hrt h hg
    ·subst e
     rw [cond_false] at h
     exact evC_ok hLP b hk hex hrt h hg
  ·cases h
 | .block i a, O, Good, kk, E, B, k, ex, rt, o, hk, hex, hrt, h, hg => by
  unfold evC at h
  refine Y_same (fun Rx Ea H _ => X_block) ?_
  refine evC_ok hLP a (Good := Good) (fun E B o h hg => Y_same (fun Rx Ea H _ => X_blk) (hk E B o h hg)) (fun j kf hf => ?_) hrt h hg
  simp only [exFind] at hf
  cases hb : Nat.beq i j with
  | true =>
   rw [hb, cond_true] at hf
   cases hf
   have := beq_t hb
   subst this
   exact ⟨kk, itx_hit, hk⟩
  | false =>
   rw [hb, cond_false] at hf
   obtain ⟨kk', h1, h2⟩ := hex j kf hf
   refine ⟨kk', ?_, h2⟩
   rw [itx_blk, if_neg (fun e => by rw [e, Nat.beq_refl] at hb; cases hb)]
   exact h1
 | .loop s a, O, Good, kk, E, B, k, ex, rt, o, hk, hex, hrt, h, hg => by
  unfold evC at h
  split at h
  ·rename_i c x hx
   replace h := bif_some h
   obtain ⟨hc, h⟩ := h
   refine Y_same (fun Rx Ea H _ => X_loop) (Y_wk (mtSt_ok hx hc) ?_)
   rw [hLP] at h
   unfold LOOPx LOOP at h
   generalize FUEL = n at h
   clear hx
   induction n generalizing x with
   | zero => cases h
   | succ n ih =>
    unfold loopN at h
    split at h
    ·rename_i y hy
     refine evC_ok hLP a (Good := GoodS (fun y => Y P V.K R (.c a.er :: .lp a.er :: kk) (s.E y).pv (pvB (s.B y))) Good) (o := .inl y) (fun E B o' h' hg' => ?_) (fun i kf hf => ?_) (inR_hrt hrt) hy (ih y h)
     ·refine Y_same (fun Rx Ea H _ => X_lp) ?_
      cases o' with
      | inl z => exact Y_wk (mtSt_ok (inL_ok h') rfl) hg'
      | inr z => exact (inL_ne h').elim
     ·obtain ⟨k0, h1, rfl⟩ := exFind_map hf
      obtain ⟨kk', h2, h3⟩ := hex i k0 h1
      refine ⟨kk', h2, fun E B o' h' hg' => ?_⟩
      cases o' with
      | inl z => exact (inR_ne h').elim
      | inr z => exact h3 E B z (inR_ok h') hg'
    ·rename_i z hz
     cases h
     refine evC_ok hLP a (Good := GoodS (fun y => False) Good) (o := .inr o) (fun E B o' h' hg' => ?_) (fun i kf hf => ?_) (inR_hrt hrt) hz hg
     ·cases o' with
      | inl z => exact hg'.elim
      | inr z => exact (inL_ne h').elim
     ·obtain ⟨k0, h1, rfl⟩ := exFind_map hf
      obtain ⟨kk', h2, h3⟩ := hex i k0 h1
      refine ⟨kk', h2, fun E B o' h' hg' => ?_⟩
      cases o' with
      | inl z => exact (inR_ne h').elim
      | inr z => exact h3 E B z (inR_ok h') hg'
    ·cases h
  ·cases h
 | .exit i, O, Good, kk, E, B, k, ex, rt, o, hk, hex, hrt, h, hg => by
  unfold evC at h
  split at h
  ·rename_i kf hf
   obtain ⟨kk', h1, h2⟩ := hex i kf hf
   exact Y_exit h1 (h2 E B o h hg)
  ·cases h
 | .ret, O, Good, kk, E, B, k, ex, rt, o, hk, hex, hrt, h, hg => Y_ret (hrt.1 E B o h hg)
 | .join s a, O, Good, kk, E, B, k, ex, rt, o, hk, hex, hrt, h, hg => by
  unfold evC at h
  rw [Option.bind_eq_some_iff] at h
  obtain ⟨z, hz, h⟩ := h
  refine evC_ok hLP a (Good := GoodS (fun y => Y P V.K R kk (s.E y).pv (pvB (s.B y))) Good) (o := z) (fun E B o' h' hg' => ?_) (fun i kf hf => ?_) (inR_hrt hrt) hz ?_
  ·cases o' with
   | inl z => exact Y_wk (mtSt_ok (inL_ok h') rfl) hg'
   | inr z => exact (inL_ne h').elim
  ·obtain ⟨k0, h1, rfl⟩ := exFind_map hf
   obtain ⟨kk', h2, h3⟩ := hex i k0 h1
   refine ⟨kk', h2, fun E B o' h' hg' => ?_⟩
   cases o' with
   | inl z => exact (inR_ne h').elim
   | inr z => exact h3 E B z (inR_ok h') hg'
  ·cases z with
   | inl y => exact hk _ _ o h hg
   | inr z => cases h; exact hg
end
end Go.AX
end
section
namespace Go.AX
open Go
def tsNil : List StK → Bool
 | [] => true
 | s :: r => s.ts.isEmpty && tsNil r
def hasD : List CalD → FuncId → Bool
 | [], _ => false
 | c :: cs, f => bif Nat.beq c.f f then true else hasD cs f
def runD {O : Type} : List CalD → FuncId → List TV → TV → TE → List TB → (List TB → Option O) → Option O
 | [], _, _, _, _, _, _ => none
 | c :: cs, f, as, v, E, B, k => bif Nat.beq c.f f then
   (match callF c.sg (rhoC c.sg (as ++ [v]) B) (as ++ [v]) B with
   | some (b, x) => bif b then (c.g x).bind fun y => rvCase c.sg.r y fun _ Bo => k (outB (rhoC c.sg (as ++ [v]) B) B Bo) else none
   | none => runD cs f as v E B k)
  else runD cs f as v E B k
section
variable {P : Program}
end
def evB {O : Type} (V : EnvT) (D : List CalD) : AC → TE → List TB → Kr O → Option O
 | .seq a b, E, B, rt => evC V a O E B (fun E B => evB V D b E B rt) [] rt
 | .dfr l x r, E, B, rt => evR V l E B (fun E B => match tev E x with
   | .fn (.func f) pa ca => bif hasD D f then evC ⟨V.LP, V.cs, B.length, V.hn, V.ps⟩ r O E B (fun E' B' => runD D f (pa ++ ca) .ni E' B' fun B2 => rt.r E' B2) []
     ⟨fun E' B' => runD D f (pa ++ ca) .ni E' B' fun B2 => rt.r E' B2, fun v E' B' => match v with | .fc t u => runD D f (pa ++ ca) (.fc t u) E' B' fun B2 => rt.r E' B2 | _ => none⟩ else none
   | _ => none) rt
 | c, E, B, rt => evC V c O E B rt.r [] rt
section
variable {P : Program} {V : EnvT} {R : PEnd} (hcs : (∀ c ∈ V.cs, CalF.ok P c) ∧ ∀ c ∈ V.ps, CalP.ok P c)
end
end Go.AX
end
section
namespace Go.AX
open Go
def rkP (cl ord : List Nat) (l : List ROper) (q : Nat) : List Nat :=
 if (l.getD q default).act then (List.range q).filter fun p => !(l.getD p default).act && !(l.getD p default).pure && !cmpB cl (ord.getD p 0) (ord.getD q 0) else []
def geL (n : Nat) : List Nat → Bool
 | [] => true
 | x :: r => Nat.ble n x && geL n r
def ckP (cl ord : List Nat) (l : List ROper) (n : Nat) : Nat → Nat → Bool
 | 0, _ => true
 | m + 1, q => geL n (rkP cl ord l q) && ckP cl ord l n m (q + 1)
def mkDL (cl ord : List Nat) (l : List ROper) : RL := (List.range l.length).map fun q => (l.getD q default, rkP cl ord l q, (rkP cl ord l q).isEmpty && ckP cl ord l q (l.length - q) q)
theorem mkDL_at {cl ord : List Nat} {l : List ROper} {p : Nat} (h : p < l.length) : ((mkDL cl ord l).at p).1 = l.getD p default := by
 simp only [RL.at, mkDL, List.getD_eq_getElem?_getD, List.getElem?_map, List.getElem?_range h, Option.map_some, Option.getD_some]
theorem mkDL_ok {cl ord : List Nat} {l : List ROper} : mkR (mkDL cl ord l) = mkD cl ord l := by
 unfold mkR mkD
 rw [show (mkDL cl ord l) = (List.range l.length).map fun q => (l.getD q default, rkP cl ord l q, (rkP cl ord l q).isEmpty && ckP cl ord l q (l.length - q) q) from rfl, List.map_map]
 apply List.map_congr_left
 intro q hq
 have hq := List.mem_range.1 hq
 simp only [Function.comp, DOp.mk.injEq, true_and]
 unfold rkOf rkP
 split
 ·apply List.map_congr_left
  intro p hp
  have hp := List.mem_range.1 (List.mem_filter.1 hp).1
  exact mkDL_at (by omega)
 ·rfl
def resD2T (ops : Array Oper) (cl ord : List Nat) (l : List ROper) : Option RL := if dOk ops cl ord l then some (mkDL cl ord l) else none
def resD1T (ops : Array Oper) (cl ord : List Nat) (l : List ROper) : Option RL := resD2T ops cl ord (ord.map fun i => l.getD i default)
def resDT (P : Program) (nt : Nat) (ops : Array Oper) : Option RL :=
 if P.follows .mixedOrders then (resOps P nt ops ops.toList).bind fun l => resD1T ops (mkCl ops.toList []) (greedy (l.zip (ops.toList.map preE)) ops.size 0) l else none
def noS : StK := ⟨[], []⟩
def dfrLast : List ROper → Option (List ROper × Opd)
 | [] => none
 | o :: r => match r, o with
  | [], ⟨none, none, .dfr x []⟩ => some ([], x)
  | _, _ => match dfrLast r with | some (l, x) => some (o :: l, x) | none => none
theorem dfrLast_ok : ∀ {l m : List ROper} {x : Opd}, dfrLast l = some (m, x) → l = m ++ [⟨none, none, .dfr x []⟩]
 | [], m, x, h => by cases h
 | o :: r, m, x, h => by
  unfold dfrLast at h
  split at h
  ·cases h; rfl
  ·split at h
   ·rename_i l y h1
    cases h
    rw [dfrLast_ok h1]; rfl
   ·cases h
def mkSeq (a b : AC) : AC := match a with
 | .reg l => match dfrLast l with | some (m, x) => .dfr m x b | none => .seq a b
 | _ => .seq a b
theorem mkSeq_er {a b : AC} : (mkSeq a b).er = .seq a.er b.er := by
 unfold mkSeq
 split
 ·split
  ·rename_i h
   simp only [AC.er, ← dfrLast_ok h]
  ·rfl
 ·rfl
def resT (P : Program) (nt : Nat) : Code → Option AC
 | .skip => some .skip
 | .region _ ops draw => if draw then (resDT P nt ops).map .regd else (resOps P nt ops ops.toList).map .reg
 | .seq a b => (resT P nt a).bind fun a => (resT P nt b).map (mkSeq a ·)
 | .cond c a b => (resO nt c).bind fun c => (resT P nt a).bind fun a => (resT P nt b).map (.cond c a ·)
 | .block id a => (resT P nt a).map (.block id)
 | .loop a => (resT P nt a).map (.loop noS)
 | .exit id => some (.exit id)
 | .ret => some .ret
 | _ => none
theorem resDT_ok {P : Program} {nt : Nat} {ops : Array Oper} {l : RL} (h : resDT P nt ops = some l) : resD P nt ops = some (mkR l) := by
 unfold resDT at h
 unfold resD
 split at h
 ·rename_i hf
  rw [if_pos hf]
  rw [Option.bind_eq_some_iff] at h ⊢
  obtain ⟨l0, h1, h2⟩ := h
  refine ⟨l0, h1, ?_⟩
  unfold resD1T resD2T at h2
  unfold resD1 resD2
  split at h2
  ·rename_i hd
   rw [if_pos hd]
   cases h2
   rw [mkDL_ok]
  ·cases h2
 ·cases h
theorem resT_ok {P : Program} {nt : Nat} : ∀ (c : Code) {a : AC}, resT P nt c = some a → resC P nt c = some a.er := by
 intro c
 induction c with
 | skip => intro a h; cases h; rfl
 | region r ops draw =>
  intro a h
  simp only [resT] at h
  simp only [resC]
  split at h
  ·rename_i hd
   rw [if_pos hd]
   obtain ⟨l, h1, rfl⟩ := Option.map_eq_some_iff.1 h
   rw [resDT_ok h1]; rfl
  ·rename_i hd
   rw [if_neg hd]
   obtain ⟨l, h1, rfl⟩ := Option.map_eq_some_iff.1 h
   rw [h1]; rfl
 | seq a b iha ihb =>
  intro x h
  simp only [resT, Option.bind_eq_some_iff, Option.map_eq_some_iff] at h
  obtain ⟨u, h1, v, h2, rfl⟩ := h
  simp only [resC, iha h1, ihb h2, Option.bind_some, Option.map_some, mkSeq_er]
 | cond c a b iha ihb =>
  intro x h
  simp only [resT, Option.bind_eq_some_iff, Option.map_eq_some_iff] at h
  obtain ⟨w, h0, u, h1, v, h2, rfl⟩ := h
  simp only [resC, h0, iha h1, ihb h2, Option.bind_some, Option.map_some, AC.er]
 | block id a iha =>
  intro x h
  simp only [resT, Option.map_eq_some_iff] at h
  obtain ⟨u, h1, rfl⟩ := h
  simp only [resC, iha h1, Option.map_some, AC.er]
 | loop a iha =>
  intro x h
  simp only [resT, Option.map_eq_some_iff] at h
  obtain ⟨u, h1, rfl⟩ := h
  simp only [resC, iha h1, Option.map_some, AC.er]
 | exit id => intro a h; cases h; rfl
 | ret => intro a h; cases h; rfl
 | _ => intro a h; simp [resT] at h
abbrev Hints := List (Nat × Bool × StK)
def hfind : Hints → Nat → Bool → Option StK
 | [], _, _ => none
 | x :: r, i, b => bif Nat.beq x.1 i && (match b with | true => x.2.1 | false => !x.2.1) then some x.2.2 else hfind r i b
def wrapJ (h : Hints) (i : Nat) (a : AC) : AC := match hfind h i true with | some s => .join s a | none => a
def ann (h : Hints) : AC → Nat → AC × Nat
 | .seq a b, i => match ann h a (i + 1) with | (a, j) => match ann h b j with | (b, j) => (wrapJ h i (.seq a b), j)
 | .cond c a b, i => match ann h a (i + 1) with | (a, j) => match ann h b j with | (b, j) => (wrapJ h i (.cond c a b), j)
 | .block id a, i => match ann h a (i + 1) with | (a, j) => (wrapJ h i (.block id a), j)
 | .loop s a, i => match ann h a (i + 1) with | (a, j) => (wrapJ h i (.loop ((hfind h i false).getD s) a), j)
 | .dfr l x a, i => match ann h a (i + 1) with | (a, j) => (.dfr l x a, j)
 | a, i => (wrapJ h i a, i + 1)
theorem wrapJ_er {h : Hints} {i : Nat} {a : AC} : (wrapJ h i a).er = a.er := by
 unfold wrapJ
 split <;> rfl
theorem ann_er {h : Hints} : ∀ (a : AC) {i : Nat}, (ann h a i).1.er = a.er
 | .seq a b, i => by simp only [ann, wrapJ_er, AC.er, ann_er a, ann_er b]
 | .cond c a b, i => by simp only [ann, wrapJ_er, AC.er, ann_er a, ann_er b]
 | .block id a, i => by simp only [ann, wrapJ_er, AC.er, ann_er a]
 | .loop s a, i => by simp only [ann, wrapJ_er, AC.er, ann_er a]
 | .dfr l x a, i => by simp only [ann, AC.er, ann_er a]
 | .skip, i | .reg _, i | .regd _, i | .exit _, i | .ret, i | .join _ _, i => by simp only [ann, wrapJ_er]
structure TFun where
 nt : Nat
 rs : List RRes
 body : AC
def resFT (P : Program) (h : Hints) (f : FuncId) : Option TFun :=
 (P.funcs[f]?).bind fun fn => fn.body.bind fun c => (resT P fn.ntmps c).bind fun a => (resRes P fn.ntmps fn.results.toList).map fun rs => ⟨fn.ntmps, rs, (ann h a 0).1⟩
theorem resFT_ok {P : Program} {h : Hints} {f : FuncId} {t : TFun} (ht : resFT P h f = some t) : resF P f = some ⟨t.nt, t.rs, t.body.er⟩ := by
 unfold resFT at ht
 unfold resF
 simp only [Option.bind_eq_some_iff, Option.map_eq_some_iff] at ht ⊢
 obtain ⟨fn, h1, c, h2, a, h3, rs, h4, rfl⟩ := ht
 exact ⟨fn, h1, c, h2, _, resT_ok c h3, rs, h4, by rw [ann_er]⟩
section
variable {P : Program}
def tprv (E : TE) (B : List TB) : List RRes → Option (Bool × List TV)
 | [] => some (true, [])
 | .t t :: r => match tprv E B r with | some (c, l) => some (c, E.get t :: l) | none => none
 | .c t n :: r => match tld n B (E.get t), tprv E B r with | some (c, v), some (d, l) => some (c && d, v :: l) | _, _ => none
 | .c1 t :: r => match tld1 B (E.get t), tprv E B r with | some (c, v), some (d, l) => some (c && d, v :: l) | _, _ => none
theorem tprv_ok {E : TE} {B : List TB} : ∀ {rs : List RRes} {c : Bool} {l : List TV}, tprv E B rs = some (c, l) → c = true → prv E.pv (pvB B) rs = some (TV.pvL l)
 | [], c, l, h, hc => by cases h; rfl
 | .t t :: r, c, l, h, hc => by
  unfold tprv at h
  split at h
  ·rename_i c' l' h1
   cases h
   simp only [prv, tprv_ok h1 hc, Option.map_some, TV.pvL]
   rfl
  ·cases h
 | .c t n :: r, c, l, h, hc => by
  unfold tprv at h
  split at h
  ·rename_i c' v d l' h1 h2
   cases h
   rw [Bool.and_eq_true] at hc
   have := tld_ok h1 hc.1
   simp only [prv, TE.pv]
   rw [this, tprv_ok h2 hc.2]
   rfl
  ·cases h
 | .c1 t :: r, c, l, h, hc => by
  unfold tprv at h
  split at h
  ·rename_i c' v d l' h1 h2
   cases h
   rw [Bool.and_eq_true] at hc
   have := tld1_ok h1 hc.1
   simp only [prv, TE.pv]
   rw [this, tprv_ok h2 hc.2]
   rfl
  ·cases h
def asE : Nat → List TV → TE
 | _, [] => []
 | i, v :: r => (i, v) :: asE (i + 1) r
def keysOK : Nat → List (Nat × SK) → Bool
 | _, [] => true
 | i, x :: r => Nat.beq x.1 i && keysOK (i + 1) r
def mtR (K : Nat) : (l : List StK) → List TV → List TB → Option (Bool × RV l)
 | [], _, _ => none
 | [s], vs, B => bif keysOK 0 s.ts && Nat.beq s.ts.length vs.length then mtSt K s (asE 0 vs) B else none
 | s :: t :: r, vs, B => match (bif keysOK 0 s.ts && Nat.beq s.ts.length vs.length then mtSt K s (asE 0 vs) B else none) with
  | some (c, y) => some (c, .inl y)
  | none => match mtR K (t :: r) vs B with | some (c, y) => some (c, .inr y) | none => none
theorem asE_get : ∀ {l : List TV} {i t : Nat}, (asE i l).get t = if i ≤ t then (l[t - i]?).getD .dd else .dd
 | [], i, t => by simp [asE, TE.get]
 | v :: r, i, t => by
  simp only [asE, TE.get]
  cases hb : Nat.beq i t with
  | true => have := beq_t hb; subst this; simp
  | false =>
   rw [cond_false, asE_get]
   have hne : i ≠ t := fun e => by rw [e, Nat.beq_refl] at hb; cases hb
   by_cases h : i + 1 ≤ t
   ·rw [if_pos h, if_pos (by omega), show t - i = (t - (i + 1)) + 1 by omega, List.getElem?_cons_succ]
   ·rw [if_neg h]
    by_cases h2 : i ≤ t
    ·omega
    ·rw [if_neg h2]
theorem fillT_get : ∀ {ts : List (Nat × SK)} {x : Val (SK.denL (tsL ts))} {i : Nat}, keysOK i ts = true → ∀ t, (fillT ts x).get t = if i ≤ t then ((fillL (tsL ts) x)[t - i]?).getD .dd else .dd
 | [], x, i, _, t => by simp [fillT, TE.get, fillL]
 | y :: r, x, i, h, t => by
  simp only [keysOK, Bool.and_eq_true] at h
  have hk := beq_t h.1
  simp only [fillT, TE.get, fillL]
  cases hb : Nat.beq y.1 t with
  | true => have := beq_t hb; subst this; rw [← hk]; simp
  | false =>
   rw [cond_false, fillT_get h.2]
   have hne : i ≠ t := fun e => by rw [hk, e, Nat.beq_refl] at hb; cases hb
   by_cases h : i + 1 ≤ t
   ·rw [if_pos h, if_pos (by omega), show t - i = (t - (i + 1)) + 1 by omega, List.getElem?_cons_succ]
   ·rw [if_neg h]
    by_cases h2 : i ≤ t
    ·omega
    ·rw [if_neg h2]
theorem fillL_len : ∀ {l : List SK} {x : Val (SK.denL l)}, (fillL l x).length = l.length
 | [], _ => rfl
 | s :: r, x => by simp only [fillL, List.length_cons, fillL_len]
theorem tsL_len : ∀ {l : List (Nat × SK)}, (tsL l).length = l.length
 | [] => rfl
 | x :: r => by simp only [tsL, List.length_cons, tsL_len]
theorem RpL_of_get {L : Lk} {H : AH} : ∀ {l : List PV} {as : List AV}, as.length = l.length → (∀ (i : Nat) v a, l[i]? = some v → as[i]? = some a → Rp L H v a) → RpL L H l as
 | [], as, h, _ => by simpa [RpL] using h
 | v :: l, [], h, _ => by simp at h
 | v :: l, a :: as, h, hg => ⟨a, as, rfl, hg 0 v a rfl rfl, RpL_of_get (by simpa using h) fun i u b hu hb => hg (i + 1) u b (by simpa using hu) (by simpa using hb)⟩
theorem ptup_inv {L : Lk} {H : AH} {l : List PV} {a : AV} (h : Rp L H (ptup l) a) : ∃ as, RpL L H l as ∧ (∀ m, m.length = l.length → ∀ L', RpL L' H m as → Rp L' H (ptup m) a) := by
 cases l with
 | nil =>
  obtain ⟨as, rfl, h2⟩ := h
  refine ⟨as, h2, fun m hm L' h3 => ?_⟩
  have : m = [] := List.length_eq_zero_iff.1 hm
  subst this
  exact ⟨as, rfl, h3⟩
 | cons v r =>
  cases r with
  | nil =>
   refine ⟨[a], ⟨a, [], rfl, h, rfl⟩, fun m hm L' h3 => ?_⟩
   match m, hm, h3 with
   | [u], _, ⟨b, bs, h4, h5, _⟩ =>
    simp only [List.cons.injEq] at h4
    rw [h4.1]; exact h5
  | cons u r =>
   obtain ⟨as, rfl, h2⟩ := h
   refine ⟨as, h2, fun m hm L' h3 => ?_⟩
   match m, hm, h3 with
   | x :: y :: m, _, h3 => exact ⟨as, rfl, h3⟩
theorem mtSt_wv {K : Nat} {s : StK} {vs : List TV} {B : List TB} {c : Bool} {y : Val s.den} (hk : keysOK 0 s.ts = true) (hl : s.ts.length = vs.length) (h : mtSt K s (asE 0 vs) B = some (c, y)) (hc : c = true) :
  Wv K (pvB B) (ptup (TV.pvL vs)) (pvB (s.B y)) (ttup (stV s y)).pv := by
 have hw := mtSt_ok h hc
 intro L H a hK hR hu
 obtain ⟨as, h1, h2⟩ := ptup_inv hu
 have hlen := h1.len
 rw [pvL_len] at hlen
 obtain ⟨L', g1, g2, g3, g4⟩ := hw L H (fun t => as.getD t (.tu [])) hK hR (fun t => by
  simp only [TE.pv, asE_get, Nat.zero_le, if_true, Nat.sub_zero]
  by_cases ht : t < vs.length
  ·have hv : (TV.pvL vs)[t]? = some (vs[t].pv) := by rw [pvL_map, List.getElem?_map, List.getElem?_eq_getElem ht]; rfl
   obtain ⟨b, e1, e2⟩ := h1.get hv
   rw [List.getElem?_eq_getElem ht, Option.getD_some, List.getD_eq_getElem?_getD, e1, Option.getD_some]
   exact e2
  ·rw [List.getElem?_eq_none (by omega), Option.getD_none]
   simp only [TV.pv, Rp])
 refine ⟨L', g1, g2, ?_, g4⟩
 rw [ttup_pv]
 refine h2 _ (by rw [pvL_len, pvL_len, stV, fillL_len, tsL_len, hl]) L' ?_
 refine RpL_of_get (by rw [pvL_len, stV, fillL_len, tsL_len, hl, hlen]) fun i v b hv hb => ?_
 have := g3 i
 simp only [StK.E, TE.pv, fillT_get hk, Nat.zero_le, if_true, Nat.sub_zero] at this
 rw [pvL_map, List.getElem?_map, Option.map_eq_some_iff] at hv
 obtain ⟨u, e1, rfl⟩ := hv
 rw [List.getD_eq_getElem?_getD, hb, Option.getD_some] at this
 simp only [stV] at e1
 rw [e1, Option.getD_some] at this
 exact this
theorem mtR_ok {K : Nat} : ∀ {l : List StK} {vs : List TV} {B : List TB} {c : Bool} {y : RV l}, mtR K l vs B = some (c, y) → c = true → Wv K (pvB B) (ptup (TV.pvL vs)) (pvB (rvOut l y).2) (rvOut l y).1.pv
 | [], vs, B, c, y, h, hc => nomatch y
 | [s], vs, B, c, y, h, hc => by
  unfold mtR at h
  replace h := bif_some h
  obtain ⟨h1, h⟩ := h
  rw [Bool.and_eq_true] at h1
  exact mtSt_wv h1.1 (beq_t h1.2) h hc
 | s :: t :: r, vs, B, c, y, h, hc => by
  unfold mtR at h
  split at h
  ·rename_i c' y' h0
   cases h
   replace h0 := bif_some h0
   obtain ⟨h1, h0⟩ := h0
   rw [Bool.and_eq_true] at h1
   exact mtSt_wv h1.1 (beq_t h1.2) h0 hc
  ·split at h
   ·rename_i c' y' h1
    cases h
    simp only [rvOut]
    exact mtR_ok h1 hc
   ·cases h
def kEnd {O : Type} (sg : Sig) (rs : List RRes) (ι : RV sg.r → O) : Ko O := fun E B => match tprv E B rs with | some (c, vs) => bif c then (match mtR sg.a.bs.length sg.r vs B with | some (d, y) => bif d then some (ι y) else none | none => none) else none | none => none
def evFn (LP : LPT) (cs : List CalF) (hn : List (Nat × Ty)) (sg : Sig) (t : TFun) (x : Val sg.a.den) : Option (RV sg.r) :=
 evC ⟨LP, cs, sg.a.bs.length, hn, []⟩ t.body (RV sg.r) (sg.a.E x) (sg.a.B x) (kEnd sg t.rs id) [] ⟨kEnd sg t.rs id, fun _ _ _ => none⟩
def evFnP (LP : LPT) (cs : List CalF) (ps : List CalP) (hn : List (Nat × Ty)) (sg : Sig) (p : SK) (t : TFun) (x : Val sg.a.den) : Option (RV sg.r ⊕ Val p.den) :=
 evC ⟨LP, cs, sg.a.bs.length, hn, ps⟩ t.body (RV sg.r ⊕ Val p.den) (sg.a.E x) (sg.a.B x) (kEnd sg t.rs .inl) [] ⟨kEnd sg t.rs .inl, fun v E B => match mt [] B p v with | some (c, e) => bif c then some (.inr e) else none | none => none⟩
def evFnD (LP : LPT) (cs : List CalF) (ps : List CalP) (ds : List CalD) (hn : List (Nat × Ty)) (sg : Sig) (t : TFun) (x : Val sg.a.den) : Option (RV sg.r) :=
 evB ⟨LP, cs, sg.a.bs.length, hn, ps⟩ ds t.body (sg.a.E x) (sg.a.B x) ⟨kEnd sg t.rs id, fun _ _ _ => none⟩
theorem kEnd_ok {O : Type} {sg : Sig} {rs : List RRes} {ι : RV sg.r → O} {E : TE} {B : List TB} {o : O} {y0 : RV sg.r} (h : kEnd sg rs ι E B = some o) (hy : ∀ y, o = ι y → y = y0) :
  Ends sg.a.bs.length rs (pvB (rvOut sg.r y0).2) (rvOut sg.r y0).1.pv none E.pv (pvB B) := by
 unfold kEnd at h
 split at h
 ·rename_i c vs h1
  replace h := bif_some h
  obtain ⟨hc, h⟩ := h
  split at h
  ·rename_i d y' h2
   replace h := bif_some h
   obtain ⟨hd, h⟩ := h
   cases h
   have := hy y' rfl
   subst this
   exact ⟨TV.pvL vs, tprv_ok h1 hc, mtR_ok h2 hd⟩
  ·cases h
 ·cases h
theorem hrt_id {sg : Sig} {rs : List RRes} {y0 : RV sg.r} : HRT (Ends sg.a.bs.length rs (pvB (rvOut sg.r y0).2) (rvOut sg.r y0).1.pv) (fun z => z = y0) ⟨kEnd sg rs id, fun _ _ _ => none⟩ :=
 ⟨fun E B o h hg => kEnd_ok h fun y hy => by rw [← hg]; exact hy.symm, fun v E B o h hg => by cases h⟩
def fnBd (P : Program) (f : FuncId) : Bool := bdB P f
section
variable {f : FuncId} {cs : List CalF} {ps : List CalP} {hn : List (Nat × Ty)} {h : Hints} {sg : Sig} {t : TFun}
theorem penv_in {sg : Sig} {x : Val sg.a.den} {R : PEnd} {K : Nat} {k : List It} {B : List PB} (hk : keysOK 0 sg.a.ts = true) (key : Y P K R k (sg.a.E x).pv B) : Y P K R k (penv (TV.pvL (stV sg.a x))) B := by
 refine Y_wk (Wk_le (fun i => ?_) Ble.refl) key
 simp only [StK.E, TE.pv, fillT_get hk, Nat.zero_le, if_true, Nat.sub_zero, penv, stV]
 rw [List.getD_eq_getElem?_getD, pvL_map, List.getElem?_map]
 cases hg : (fillL (tsL sg.a.ts) (fst2 x))[i]? with
 | some v => simp only [Option.map_some, Option.getD_some]; exact Vle.refl _
 | none => simp only [Option.map_none, Option.getD_none, TV.pv, Vle]
theorem argB_len {x : Val sg.a.den} : (pvB (sg.a.B x)).length = sg.a.bs.length := by simp only [StK.B, pvB_len, fillBs_len]
theorem args_le {x : Val sg.a.den} {n : Nat} (h : Nat.ble sg.a.ts.length n = true) : (TV.pvL (stV sg.a x)).length ≤ n := by rw [pvL_len, stV, fillL_len, tsL_len]; exact ble_t h
theorem pcall_ev {x : Val sg.a.den} {y : RV sg.r} (ht : resFT P h f = some t) (hk : (keysOK 0 sg.a.ts && Nat.ble sg.a.ts.length t.nt) = true) (key : Y P sg.a.bs.length (Ends sg.a.bs.length t.rs (pvB (rvOut sg.r y).2) (rvOut sg.r y).1.pv) [.c t.body.er] (sg.a.E x).pv (pvB (sg.a.B x))) :
  PCall P f (pvB (sg.a.B x)) (TV.pvL (stV sg.a x)) (pvB (rvOut sg.r y).2) (rvOut sg.r y).1.pv (List.range sg.a.bs.length) := by
 rw [Bool.and_eq_true] at hk
 have hpc := pcall_of_Y (P := P) (f := f) (B := pvB (sg.a.B x)) (args := TV.pvL (stV sg.a x)) (B1 := pvB (rvOut sg.r y).2) (v := (rvOut sg.r y).1.pv) (resFT_ok ht) (args_le hk.2) (by rw [argB_len]; exact penv_in hk.1 key)
 rw [argB_len] at hpc
 exact hpc
theorem fn_of_ev (hcs : ∀ c ∈ cs, CalF.ok P c) (ht : resFT P h f = some t) (hb : bdB P f = true) (hk : (keysOK 0 sg.a.ts && Nat.ble sg.a.ts.length t.nt) = true) : FnOK P f sg (evFn LOOPx cs hn sg t) :=
 ⟨Bd_of hb, fun x y hy => pcall_ev ht hk (evC_ok (V := ⟨LOOPx, cs, sg.a.bs.length, hn, []⟩) ⟨hcs, fun c hc => by cases hc⟩ rfl t.body (Good := fun z => z = y) (fun E B o h hg => Y_nil (hrt_id.1 _ _ _ h hg)) (fun i kf hf => by cases hf) hrt_id hy rfl)⟩
end
structure TDef where
 nt : Nat
 t : Nat
 l : List ROper
 c : AC
def resDfT (P : Program) (h : Hints) (f : FuncId) : Option TDef :=
 (P.funcs[f]?).bind fun fn => fn.body.bind fun c => match c, fn.results.toList with
  | .seq (.region _ ops false) c2, [] => (match ops.toList with
   | o :: r => (isRec o).bind fun t => if t < fn.ntmps then (resOps P fn.ntmps ops r).bind fun l => (resT P fn.ntmps c2).map fun rc => ⟨fn.ntmps, t, l, (ann h rc 0).1⟩ else none
   | [] => none)
  | _, _ => none
def splitL : List TV → Option (List TV × TV)
 | [] => none
 | [v] => some ([], v)
 | v :: r => match splitL r with | some (l, u) => some (v :: l, u) | none => none
def evFnDf (LP : LPT) (cs : List CalF) (hn : List (Nat × Ty)) (sg : Sig) (t : TDef) (x : Val sg.a.den) : Option (RV sg.r) :=
 match splitL (stV sg.a x) with
 | some (as, v) => bif Nat.ble as.length t.nt then evR ⟨LP, cs, sg.a.bs.length, hn, []⟩ t.l ((asE 0 as).put (some t.t) v) (sg.a.B x) (fun E B => evC ⟨LP, cs, sg.a.bs.length, hn, []⟩ t.c (RV sg.r) E B (kEnd sg [] id) [] ⟨kEnd sg [] id, fun _ _ _ => none⟩) ⟨kEnd sg [] id, fun _ _ _ => none⟩ else none
 | none => none
@[reducible] def GS : List (FuncId × Sig) → Type
 | [] => Unit
 | x :: r => (Val x.2.a.den → Option (RV x.2.r)) × GS r
def mkCs : (l : List (FuncId × Sig)) → GS l → List CalF
 | [], _ => []
 | x :: r, g => ⟨x.1, x.2, g.1⟩ :: mkCs r g.2
def GOK (P : Program) : (l : List (FuncId × Sig)) → GS l → Prop
 | [], _ => True
 | x :: r, g => FnOK P x.1 x.2 g.1 ∧ GOK P r g.2
theorem mkCs_ok : ∀ {l : List (FuncId × Sig)} {g : GS l}, GOK P l g → ∀ c ∈ mkCs l g, CalF.ok P c
 | [], _, _, c, hc => by cases hc
 | x :: r, g, h, c, hc => by
  rcases List.mem_cons.1 hc with rfl | hc
  ·exact h.1
  ·exact mkCs_ok h.2 c hc
theorem fn_of {f : FuncId} {sgs : List (FuncId × Sig)} {hn : List (Nat × Ty)} {h : Hints} {sg : Sig} {Gd : LPT → GS sgs → Val sg.a.den → Option (RV sg.r)} (gs : GS sgs) (hgs : GOK P sgs gs) (hb : bdB P f = true)
  (he : (match resFT P h f with | some t => some (keysOK 0 sg.a.ts && Nat.ble sg.a.ts.length t.nt, fun LP gs => evFn LP (mkCs sgs gs) hn sg t) | none => none) = some (true, Gd)) : FnOK P f sg (Gd LOOPx gs) := by
 split at he
 ·rename_i t ht
  simp only [Option.some.injEq, Prod.mk.injEq] at he
  rw [← he.2]
  exact fn_of_ev (mkCs_ok hgs) ht hb he.1
 ·cases he
@[reducible] def GSP : List (FuncId × Sig × SK) → Type
 | [] => Unit
 | x :: r => (Val x.2.1.a.den → Option (RV x.2.1.r ⊕ Val x.2.2.den)) × GSP r
def mkPs : (l : List (FuncId × Sig × SK)) → GSP l → List CalP
 | [], _ => []
 | x :: r, g => ⟨x.1, x.2.1, x.2.2, g.1⟩ :: mkPs r g.2
def GPOK (P : Program) : (l : List (FuncId × Sig × SK)) → GSP l → Prop
 | [], _ => True
 | x :: r, g => FnPOK P x.1 x.2.1 x.2.2 g.1 ∧ GPOK P r g.2
def mkDs : (l : List (FuncId × Sig)) → GS l → List CalD
 | [], _ => []
 | x :: r, g => ⟨x.1, x.2, g.1⟩ :: mkDs r g.2
def GDOK (P : Program) : (l : List (FuncId × Sig)) → GS l → Prop
 | [], _ => True
 | x :: r, g => DfOK P x.1 x.2 g.1 ∧ GDOK P r g.2
theorem fn_rec {f : FuncId} {sg : Sig} {F : (Val sg.a.den → Option (RV sg.r)) → Val sg.a.den → Option (RV sg.r)} (hb : bdB P f = true) (h : ∀ g, FnOK P f sg g → FnOK P f sg (F g)) : FnOK P f sg (FIX F) := by
 have key : ∀ n, FnOK P f sg (fixN n F) := by
  intro n
  induction n with
  | zero => exact ⟨Bd_of hb, fun x y hy => by cases hy⟩
  | succ n ih => exact h _ ih
 exact key FUEL
end
end Go.AX
end
section
namespace Go.AX
open Go
def cloneG (T : Ty) (bytes : Nat) (l : List T.den) : Option (List T.den) := bif decide (l.length * bytes ≤ 140737488355328) then some l else none
def sgClone (T : Ty) : Sig := ⟨⟨[(0, .vs 0 T)], []⟩, [⟨[(0, .gr 0)], [.gs true T]⟩]⟩
theorem clone_ok {P : Program} {f : FuncId} (T : Ty) (bytes : Nat) (hf : resF P f = some (rfClone T.size bytes)) (hs : Nat.blt 0 T.size = true) (hb : bdB P f = true) : FnOK P f (sgClone T) (cloneG T bytes) := by
 have key : ∀ (x y : List T.den), cloneG T bytes x = some y → Pu P f [.vs 0 T.size (T.pl x)] [.gs true T.size (T.pl y)] (.gr 0) := by
  intro x y hy
  replace hy := bif_some hy
  obtain ⟨h1, h2⟩ := hy
  cases h2
  exact clone_gen hf 0 (T.pl x) (blt_t hs) (by rw [List.length_map]; exact of_decide_eq_true h1)
 exact ⟨Bd_of hb, fun x y hy => key x y hy⟩
end Go.AX
end
section
namespace Go.AX
open Go
def ctT : Ty → List CT
 | .int k => [.i k]
 | .boo => [.b]
 | .str => []
 | .sl T => [.sl (ctT T)]
 | .pr T R => ctT T ++ ctT R
 | .un => []
def Ty.plain : Ty → Bool
 | .str => false
 | .sl T => T.plain
 | .pr T R => T.plain && R.plain
 | _ => true
def Ty.ok : (T : Ty) → T.den → Prop
 | .int k, n => (Lit.int k n).wf = true
 | .boo, _ => True
 | .str, _ => False
 | .sl T, l => l.length ≤ maxLen ∧ ∀ x ∈ l, T.ok x
 | .pr T R, x => T.ok x.1 ∧ R.ok x.2
 | .un, _ => True
theorem ctT_len : ∀ {T : Ty}, T.plain = true → (ctT T).length = T.size
 | .int _, _ | .boo, _ | .sl _, _ | .un, _ => rfl
 | .str, h => by simp [Ty.plain] at h
 | .pr T R, h => by
  simp only [Ty.plain, Bool.and_eq_true] at h
  simp only [ctT, List.length_append, ctT_len h.1, ctT_len h.2, Ty.size]
theorem has_ty : ∀ (T : Ty), T.plain = true → ∀ {cs : List PV}, hasL (ctT T) cs → ∃ x : T.den, VleL cs (T.pcl x) ∧ T.ok x := by
 intro T
 induction T with
 | int k =>
  intro _ cs h
  simp only [ctT, hasL, hasC] at h
  obtain ⟨_, _, rfl, ⟨n, rfl, h1⟩, rfl⟩ := h
  exact ⟨n, VleL.refl _, h1⟩
 | boo =>
  intro _ cs h
  simp only [ctT, hasL, hasC] at h
  obtain ⟨_, _, rfl, ⟨n, rfl⟩, rfl⟩ := h
  exact ⟨n, VleL.refl _, trivial⟩
 | str => intro h; simp [Ty.plain] at h
 | un =>
  intro _ cs h
  simp only [ctT, hasL] at h
  subst h
  exact ⟨(), VleL.refl _, trivial⟩
 | pr T R ih1 ih2 =>
  intro hp cs h
  simp only [Ty.plain, Bool.and_eq_true] at hp
  simp only [ctT] at h
  obtain ⟨h1, h2⟩ := hasL_split h
  obtain ⟨x, g1, g2⟩ := ih1 hp.1 h1
  obtain ⟨y, g3, g4⟩ := ih2 hp.2 h2
  refine ⟨(x, y), ?_, g2, g4⟩
  have := g1.app g3
  rw [List.take_append_drop] at this
  exact this
 | sl T ih =>
  intro hp cs h
  have hp : T.plain = true := hp
  simp only [ctT, hasL, hasC] at h
  obtain ⟨_, _, rfl, ⟨l, rfl, h1, h2⟩, rfl⟩ := h
  have key : ∀ (l : List PV), (∀ x ∈ l, ∃ cs, x = elemOf cs ∧ hasL (ctT T) cs) → ∃ xs : List T.den, VleL l (T.pl xs) ∧ xs.length = l.length ∧ ∀ x ∈ xs, T.ok x := by
   intro l
   induction l with
   | nil => intro _; exact ⟨[], VleL.refl _, rfl, fun x h => by cases h⟩
   | cons v r ihl =>
    intro h
    obtain ⟨cs, rfl, h3⟩ := h v (List.mem_cons_self ..)
    obtain ⟨x, g1, g2⟩ := ih hp h3
    obtain ⟨xs, g3, g4, g5⟩ := ihl fun x hx => h x (List.mem_cons_of_mem _ hx)
    refine ⟨x :: xs, ?_, by simp [g4], fun y hy => ?_⟩
    ·simp only [List.map_cons, VleL]
     exact ⟨_, _, rfl, g1.elem, g3⟩
    ·rcases List.mem_cons.1 hy with rfl | hy
     ·exact g2
     ·exact g5 y hy
  obtain ⟨xs, g1, g2, g3⟩ := key l h2
  refine ⟨xs, VleL.one ?_, ?_, g3⟩
  ·simp only [Vle]
   exact ⟨Nat.zero_le _, .inl ⟨ctT_len hp, g1⟩⟩
  ·rw [g2]; exact h1
def skC : SK → Option (List CT)
 | .it k => some [.i k]
 | .bo => some [.b]
 | .vs w T => bif Nat.ble w 1 && T.plain then some [.sl (ctT T)] else none
 | _ => none
def skCs : List SK → Option (List CT)
 | [] => some []
 | s :: r => match skC s, skCs r with | some a, some b => some (a ++ b) | _, _ => none
def skT : SK → Option (Bool × List CT)
 | .ag l => (skCs l).map (true, ·)
 | s => (skC s).map (false, ·)
def skTs : List SK → Option (List (Bool × List CT))
 | [] => some []
 | s :: r => match skT s, skTs r with | some a, some b => some (a :: b) | _, _ => none
mutual
def SK.ok : (s : SK) → Val s.den → Prop
 | .it k, n => (Lit.int k n).wf = true
 | .bo, _ => True
 | .vs _ T, l => Ty.ok (.sl T) l
 | .ag l, x => SK.okL l x
 | _, _ => True
def SK.okL : (l : List SK) → Val (SK.denL l) → Prop
 | [], _ => True
 | s :: r, x => SK.ok s (fst2 x) ∧ SK.okL r (snd2 x)
end
theorem has_sl {T : Ty} (hp : T.plain = true) {w : Nat} (hw : w ≤ 1) {cs : List PV} (h : hasL [.sl (ctT T)] cs) : ∃ x : List T.den, VleL cs [.vs w T.size (T.pl x)] ∧ Ty.ok (.sl T) x := by
 have h0 := h
 obtain ⟨x, h1, h2⟩ := has_ty (.sl T) hp h
 refine ⟨x, ?_, h2⟩
 simp only [hasL, hasC] at h0
 obtain ⟨_, _, rfl, ⟨l, rfl, _, _⟩, rfl⟩ := h0
 have h1 : VleL [.vs 1 (ctT T).length l] [.vs 0 T.size (T.pl x)] := h1
 simp only [VleL, List.cons.injEq] at h1
 obtain ⟨_, _, ⟨rfl, rfl⟩, g, _⟩ := h1
 refine VleL.one ?_
 simp only [Vle] at g ⊢
 exact ⟨hw, g.2⟩
theorem has_sk {s : SK} {ts : List CT} (h : skC s = some ts) {cs : List PV} (hc : hasL ts cs) : ∃ x : Val s.den, VleL cs [(fill s x).pv] ∧ SK.ok s x := by
 cases s with
 | it k =>
  simp only [skC, Option.some.injEq] at h
  subst h
  obtain ⟨x, h1, h2⟩ := has_ty (.int k) rfl hc
  exact ⟨x, h1, by simp only [SK.ok]; exact h2⟩
 | bo =>
  simp only [skC, Option.some.injEq] at h
  subst h
  obtain ⟨x, h1, h2⟩ := has_ty .boo rfl hc
  exact ⟨x, h1, by simp only [SK.ok]⟩
 | vs w T =>
  simp only [skC] at h
  replace h := bif_some h
  obtain ⟨hp, h⟩ := h
  cases h
  rw [Bool.and_eq_true] at hp
  obtain ⟨x, h1, h2⟩ := has_sl hp.2 (ble_t hp.1) hc
  exact ⟨x, h1, by simp only [SK.ok]; exact h2⟩
 | _ => simp [skC] at h
theorem okL_mk {s : SK} {r : List SK} {x : Val s.den} {y : Val (SK.denL r)} (h1 : SK.ok s x) (h2 : SK.okL r y) : SK.okL (s :: r) (mk2 x y) := by
 simp only [SK.okL, fst_mk, snd_mk]
 exact ⟨h1, h2⟩
theorem fill_mk {s : SK} {r : List SK} {x : Val s.den} {y : Val (SK.denL r)} : fillL (s :: r) (mk2 x y) = fill s x :: fillL r y := by
 simp only [fillL, fst_mk, snd_mk]
theorem has_sks : ∀ {l : List SK} {ts : List CT}, skCs l = some ts → ∀ {cs : List PV}, hasL ts cs → ∃ x : Val (SK.denL l), VleL cs (TV.pvL (fillL l x)) ∧ SK.okL l x
 | [], ts, h, cs, hc => by
  simp only [skCs, Option.some.injEq] at h; subst h
  simp only [hasL] at hc; subst hc
  exact ⟨(), by simp only [VleL, fillL, TV.pvL], by simp only [SK.okL]⟩
 | s :: r, ts, h, cs, hc => by
  unfold skCs at h
  split at h
  ·rename_i a b h1 h2
   cases h
   obtain ⟨g1, g2⟩ := hasL_split hc
   obtain ⟨x, g3, g4⟩ := has_sk h1 g1
   obtain ⟨y, g5, g6⟩ := has_sks h2 g2
   refine ⟨mk2 x y, ?_, okL_mk g4 g6⟩
   rw [fill_mk]
   have := g3.app g5
   rw [List.take_append_drop] at this
   exact this
  ·cases h
theorem has_args : ∀ {l : List SK} {tt : List (Bool × List CT)}, skTs l = some tt → ∀ {p : List PV}, hasT tt p → ∃ x : Val (SK.denL l), VleL p (TV.pvL (fillL l x)) ∧ SK.okL l x
 | [], tt, h, p, hp => by
  simp only [skTs, Option.some.injEq] at h; subst h
  simp only [hasT] at hp; subst hp
  exact ⟨(), by simp only [VleL, fillL, TV.pvL], by simp only [SK.okL]⟩
 | s :: r, tt, h, p, hp => by
  unfold skTs at h
  split at h
  ·rename_i a b h1 h2
   cases h
   have fin : ∀ {v : PV} {q : List PV} {x : Val s.den}, Vle v (fill s x).pv → SK.ok s x → hasT b q → ∃ x : Val (SK.denL (s :: r)), VleL (v :: q) (TV.pvL (fillL (s :: r) x)) ∧ SK.okL (s :: r) x := by
    intro v q x g1 g2 hq
    obtain ⟨y, g3, g4⟩ := has_args h2 hq
    refine ⟨mk2 x y, ?_, okL_mk g2 g4⟩
    rw [fill_mk]
    simp only [TV.pvL, VleL]
    exact ⟨_, _, rfl, g1, g3⟩
   unfold skT at h1
   split at h1
   ·rename_i l
    obtain ⟨ts, h3, rfl⟩ := Option.map_eq_some_iff.1 h1
    simp only [hasT] at hp
    obtain ⟨q, l', rfl, h4, h5⟩ := hp
    obtain ⟨x, g1, g2⟩ := has_sks h3 h4
    refine fin (x := x) ?_ (by simp only [SK.ok]; exact g2) h5
    simp only [fill, TV.pv, Vle]; exact g1
   ·obtain ⟨ts, h3, rfl⟩ := Option.map_eq_some_iff.1 h1
    simp only [hasT] at hp
    obtain ⟨v, l', rfl, h4, h5⟩ := hp
    obtain ⟨x, g1, g2⟩ := has_sk h3 h4
    refine fin (x := x) ?_ g2 h5
    simp only [VleL, List.cons.injEq] at g1
    obtain ⟨_, _, ⟨rfl, rfl⟩, g3, _⟩ := g1
    exact g3
  ·cases h
theorem law_of {P : Program} {f : FuncId} {ts : List (Nat × SK)} {g : Val (StK.den ⟨ts, []⟩) → Option Bool} (h : FnOK P f ⟨⟨ts, []⟩, [⟨[(0, .bo)], []⟩]⟩ g) {tt : List (Bool × List CT)} (ht : skTs (tsL ts) = some tt)
  (hg : ∀ x : Val (SK.denL (tsL ts)), SK.okL (tsL ts) x → g (mk2 x ()) = some true) : ∀ p, hasT tt p → Pu P f p [] (.bo true) := by
 intro p hp
 obtain ⟨x, h1, h2⟩ := has_args ht hp
 have := h.2 _ _ (hg x h2)
 have e : stV ⟨ts, []⟩ (mk2 x ()) = fillL (tsL ts) x := by simp only [stV, fst_mk]
 rw [e] at this
 intro L H avs hR ha
 exact this L H avs hR (RpL.vle _ _ h1 ha)
end Go.AX
end
section
namespace Go.AX
open Go
theorem loopN_eq {σ O : Type} {f : σ → Option (σ ⊕ O)} (Inv : σ → Prop) (μ : σ → Nat) (res : σ → O)
  (h : ∀ s, Inv s → f s = some (.inr (res s)) ∨ ∃ s', f s = some (.inl s') ∧ μ s' < μ s ∧ Inv s' ∧ res s' = res s) : ∀ (n : Nat) (s : σ), Inv s → μ s < n → loopN n f s = some (res s)
 | 0, s, _, hn => by omega
 | n + 1, s, hi, hn => by
  rcases h s hi with h1 | ⟨s', h1, h2, h3, h4⟩
  ·simp only [loopN, h1]
  ·simp only [loopN, h1]
   rw [loopN_eq Inv μ res h n s' h3 (by omega), h4]
theorem LOOP_eq {σ O : Type} {f : σ → Option (σ ⊕ O)} {s : σ} (Inv : σ → Prop) (μ : σ → Nat) (res : σ → O)
  (h : ∀ s, Inv s → f s = some (.inr (res s)) ∨ ∃ s', f s = some (.inl s') ∧ μ s' < μ s ∧ Inv s' ∧ res s' = res s) (hi : Inv s) (hm : μ s < FUEL) : LOOPx σ O f s = some (res s) :=
 loopN_eq Inv μ res h FUEL s hi hm
theorem loopN_ex {σ O : Type} {f : σ → Option (σ ⊕ O)} (Inv : σ → Prop) (μ : σ → Nat) (Q : O → Prop)
  (h : ∀ s, Inv s → (∃ o, f s = some (.inr o) ∧ Q o) ∨ ∃ s', f s = some (.inl s') ∧ μ s' < μ s ∧ Inv s') : ∀ (n : Nat) (s : σ), Inv s → μ s < n → ∃ o, loopN n f s = some o ∧ Q o
 | 0, s, _, hn => by omega
 | n + 1, s, hi, hn => by
  rcases h s hi with ⟨o, h1, h2⟩ | ⟨s', h1, h2, h3⟩
  ·exact ⟨o, by simp only [loopN, h1], h2⟩
  ·obtain ⟨o, h4, h5⟩ := loopN_ex Inv μ Q h n s' h3 (by omega)
   exact ⟨o, by simp only [loopN, h1]; exact h4, h5⟩
theorem LOOP_ex {σ O : Type} {f : σ → Option (σ ⊕ O)} {s : σ} (Inv : σ → Prop) (μ : σ → Nat) (Q : O → Prop)
  (h : ∀ s, Inv s → (∃ o, f s = some (.inr o) ∧ Q o) ∨ ∃ s', f s = some (.inl s') ∧ μ s' < μ s ∧ Inv s') (hi : Inv s) (hm : μ s < FUEL) : ∃ o, LOOPx σ O f s = some o ∧ Q o :=
 loopN_ex Inv μ Q h FUEL s hi hm
def StepOK {σ O : Type} (Inv : σ → Prop) (μ : σ → Nat) (res : σ → O) (s : σ) : Option (σ ⊕ O) → Prop
 | some (.inr o) => o = res s
 | some (.inl s') => μ s' < μ s ∧ Inv s' ∧ res s' = res s
 | none => False
theorem LOOP_m {σ O : Type} {f : σ → Option (σ ⊕ O)} {s : σ} (Inv : σ → Prop) (μ : σ → Nat) (res : σ → O)
  (h : ∀ s, Inv s → StepOK Inv μ res s (f s)) (hi : Inv s) (hm : μ s < FUEL) : LOOPx σ O f s = some (res s) :=
 LOOP_eq Inv μ res (fun s hs => by
  have := h s hs
  cases hf : f s with
  | none => rw [hf] at this; exact this.elim
  | some x =>
   rw [hf] at this
   cases x with
   | inl s' => exact .inr ⟨s', rfl, this⟩
   | inr o => exact .inl (by rw [show o = res s from this])) hi hm
theorem StepOK_ite {σ O : Type} {Inv : σ → Prop} {μ : σ → Nat} {res : σ → O} {s : σ} {p : Prop} [Decidable p] {a b : Option (σ ⊕ O)} (h1 : p → StepOK Inv μ res s a) (h2 : ¬ p → StepOK Inv μ res s b) : StepOK Inv μ res s (if p then a else b) := by
 by_cases h : p
 ·rw [if_pos h]; exact h1 h
 ·rw [if_neg h]; exact h2 h
theorem StepOK_inr {σ O : Type} {Inv : σ → Prop} {μ : σ → Nat} {res : σ → O} {s : σ} {o : O} (h : o = res s) : StepOK Inv μ res s (some (.inr o)) := h
theorem StepOK_inl {σ O : Type} {Inv : σ → Prop} {μ : σ → Nat} {res : σ → O} {s s' : σ} (h : μ s' < μ s ∧ Inv s' ∧ res s' = res s) : StepOK Inv μ res s (some (.inl s')) := h
theorem cond_b {α : Type} {c : Bool} {a b : α} : (bif c then a else b) = if c = true then a else b := by cases c <;> rfl
theorem at_get {T : Ty} {l : List T.den} {n : Nat} (h : n < l.length) : Ty.at T l n = l[n] := by
 rw [Ty.at, List.getD_eq_getElem?_getD, List.getElem?_eq_getElem h, Option.getD_some]
theorem at_mem {T : Ty} {l : List T.den} {n : Nat} (h : n < l.length) : Ty.at T l n ∈ l := by
 rw [at_get h]; exact List.getElem_mem h
theorem wrap_i64 {x : Int} (h : -9223372036854775808 ≤ x ∧ x ≤ 9223372036854775807) : IntKind.i64.wrap x = x := wrap_id h
end Go.AX
end
