/- AX, part N: what a region that draws its order asks of its operations. -/
import Derived.Test.YtjmknbbipadjbaaAxI
set_option linter.unusedSimpArgs false
set_option linter.unusedVariables false
namespace Go.AX
open Go

def VOp.opds : VOp → List Opd
  | .mv x => [x]
  | .pick c a b => [c, a, b]
  | .alloc _ => []
  | .box x => [x]
  | .bld _ ps => ps.map (·.x)
  | .bsl _ _ ps => ps.map (·.x)
  | .ld _ x => [x]
  | .ld1 x => [x]
  | .sto _ a x => [a, x]
  | .nilc x => [x]
  | .bin _ _ _ x y => [x, y]
  | .un _ x => [x]
  | .cvi _ x => [x]
  | .cvsame x => [x]
  | .mkif _ x => [x]
  | .mkfn _ a c => a ++ c
  | .mks _ _ l c => [l, c]
  | .slc _ x lo hi mx => x :: (lo.toList ++ (hi.toList ++ mx.toList))
  | .slcs x lo hi => x :: (lo.toList ++ hi.toList)
  | .slca _ _ x lo hi mx => x :: (lo.toList ++ (hi.toList ++ mx.toList))
  | .fa _ x => [x]
  | .fld _ _ _ x => [x]
  | .ia _ x i => [x, i]
  | .iaa _ _ x i => [x, i]
  | .ix _ _ _ x i => [x, i]
  | .ixs x i => [x, i]
  | .ext x _ => [x]
  | .ta _ _ x => [x]
  | .len _ x => [x]
  | .lenk _ => []
  | .cap x => [x]
  | .mm _ xs => xs
  | .app _ _ s x => [s, x]
  | .cpy _ d s => [d, s]
  | .mkm => []
  | .lkp _ _ x i => [x, i]
  | .mup m k x => [m, k, x]
  | .mdel m k => [m, k]
theorem bnd_congr {E E' : Env} {x : Option Opd} (h : ∀ y ∈ x.toList, ev E y = ev E' y) (d top : Nat) : bnd E d top x = bnd E' d top x := by
  cases x with
  | none => rfl
  | some y => simp only [bnd, h y (by simp)]
theorem vfill_congr {E E' : Env} : ∀ (ps : List Part) (cs : List AV), (∀ y ∈ ps.map (·.x), ev E y = ev E' y) → vfill E cs ps = vfill E' cs ps
  | [], cs, _ => rfl
  | p :: r, cs, h => by
    simp only [vfill, h p.x (by simp)]
    congr 1
    funext m
    split
    · exact vfill_congr r _ fun y hy => h y (by simp only [List.map_cons, List.mem_cons]; exact .inr hy)
    · rfl
theorem vop_congr {vo : VOp} {E E' : Env} {H : AH} (h : ∀ x ∈ vo.opds, ev E x = ev E' x) : vop vo E H = vop vo E' H := by
  cases vo <;> simp only [VOp.opds] at h <;> simp only [vop]
  all_goals first
    | rfl
    | (simp only [List.mem_cons, List.not_mem_nil, or_false, forall_eq_or_imp, forall_eq] at h; simp only [h]; done)
    | skip
  case bld z ps => rw [vfill_congr ps z h]
  case bsl n z ps => rw [vfill_congr ps z h]
  case mkfn f a c =>
    rw [show a.map (ev E) = a.map (ev E') from List.map_congr_left fun x hx => h x (by simp [hx]), show c.map (ev E) = c.map (ev E') from List.map_congr_left fun x hx => h x (by simp [hx])]
  case slc es x lo hi mx =>
    have h0 := h x (by simp)
    have h1 := fun d top => bnd_congr (E := E) (E' := E') (x := lo) (fun y hy => h y (by simp at hy ⊢; simp [hy])) d top
    have h2 := fun d top => bnd_congr (E := E) (E' := E') (x := hi) (fun y hy => h y (by simp at hy ⊢; simp [hy])) d top
    have h3 := fun d top => bnd_congr (E := E) (E' := E') (x := mx) (fun y hy => h y (by simp at hy ⊢; simp [hy])) d top
    rw [h0]
    congr 1
    unfold vslc
    split <;> first
      | rfl
      | (simp only [h1, h2, h3]; done)
      | (split
         · split
           · simp only [h1, h2]
           · simp only [h1, h2]
             rename_i mo
             have h4 := fun d top => bnd_congr (E := E) (E' := E') (x := some mo) (fun y hy => h y (by simp at hy ⊢; simp [hy])) d top
             simp only [h4]
         · rfl)
  case slcs x lo hi =>
    have h0 := h x (by simp)
    have h1 := fun d top => bnd_congr (E := E) (E' := E') (x := lo) (fun y hy => h y (by simp at hy ⊢; simp [hy])) d top
    have h2 := fun d top => bnd_congr (E := E) (E' := E') (x := hi) (fun y hy => h y (by simp at hy ⊢; simp [hy])) d top
    rw [h0]
    congr 1
    unfold vslcs
    split
    · simp only [h1, h2]
    · rfl
  case slca n es x lo hi mx =>
    have h0 := h x (by simp)
    have h1 := fun d top => bnd_congr (E := E) (E' := E') (x := lo) (fun y hy => h y (by simp at hy ⊢; simp [hy])) d top
    have h2 := fun d top => bnd_congr (E := E) (E' := E') (x := hi) (fun y hy => h y (by simp at hy ⊢; simp [hy])) d top
    have h3 := fun d top => bnd_congr (E := E) (E' := E') (x := mx) (fun y hy => h y (by simp at hy ⊢; simp [hy])) d top
    rw [h0]
    congr 1
    unfold vslca
    split
    · simp only [h1, h2, h3]
    · rfl
  case mm mx xs =>
    cases xs with
    | nil => rfl
    | cons x r =>
      have h0 := h x (by simp)
      simp only
      rw [h0, show r.map (ev E) = r.map (ev E') from List.map_congr_left fun y hy => h y (by simp [hy])]

/-- 0: it makes and writes nothing; 1: it makes a block; 2: it may write. -/
def VOp.cls : VOp → Nat
  | .alloc _ => 1
  | .box _ => 1
  | .bsl _ _ _ => 1
  | .mks _ _ _ _ => 1
  | .sto _ _ _ => 2
  | .app _ _ _ _ => 2
  | .cpy _ _ _ => 2
  | .mkm => 2
  | .mup _ _ _ => 2
  | .mdel _ _ => 2
  | _ => 0
/-- What it yields hangs on no memory. -/
def VOp.pure : VOp → Bool
  | .mv _ => true
  | .pick _ _ _ => true
  | .bld _ _ => true
  | .nilc _ => true
  | .bin _ _ _ _ _ => true
  | .un _ _ => true
  | .cvi _ _ => true
  | .mkif _ _ => true
  | .mkfn _ _ _ => true
  | .slcs _ _ _ => true
  | .slca _ _ _ _ _ _ => true
  | .fa _ _ => true
  | .fld _ _ _ _ => true
  | .iaa _ _ _ _ => true
  | .ix _ _ _ _ _ => true
  | .ixs _ _ => true
  | .ext _ _ => true
  | .ta _ _ _ => true
  | .lenk _ => true
  | .cap _ => true
  | .mm _ _ => true
  | _ => false
theorem cls0 {vo : VOp} {E : Env} {H H' : AH} {v : AV} (hc : vo.cls = 0) (h : vop vo E H = some (v, H')) : H' = H := by
  cases vo
  all_goals first
    | exact absurd hc (show ¬ ((1 : Nat) = 0) by decide)
    | exact absurd hc (show ¬ ((2 : Nat) = 0) by decide)
    | exact (map_pair h).2
    | (simp only [vop, Option.some.injEq, Prod.mk.injEq] at h; exact h.2.symm)
    | skip
  case bld z ps =>
    simp only [vop, Option.map_eq_some_iff, Prod.mk.injEq] at h
    obtain ⟨l, _, _, rfl⟩ := h
    rfl
  case mm mx xs =>
    cases xs with
    | nil => simp [vop] at h
    | cons x r => exact (map_pair h).2
  case lkp z ok x i =>
    simp only [vop, Option.bind_eq_some_iff, Option.map_eq_some_iff, Prod.mk.injEq] at h
    obtain ⟨es, _, r, _, _, rfl⟩ := h
    rfl
theorem pure_any {vo : VOp} {E : Env} {H H' : AH} {v : AV} (hp : vo.pure = true) (h : vop vo E H = some (v, H)) : vop vo E H' = some (v, H') := by
  have key : ∀ (x : Option AV), (x.map (·, H)) = some (v, H) → (x.map (·, H')) = some (v, H') := by
    intro x hx
    obtain ⟨rfl, _⟩ := map_pair hx
    rfl
  cases vo <;> first
    | exact absurd hp (show ¬ (false = true) by decide)
    | exact key _ h
    | (simp only [vop, Option.some.injEq, Prod.mk.injEq, and_true] at h ⊢; exact h)
    | skip
  case bld z ps =>
    simp only [vop, Option.map_eq_some_iff, Prod.mk.injEq] at h ⊢
    obtain ⟨l, hl, h1, _⟩ := h
    exact ⟨l, hl, h1, trivial⟩
  case mm mx xs =>
    cases xs with
    | nil => simp [vop] at h
    | cons x r => exact key _ h

/-- A block more doesn't turn what is read. -/
theorem stable_al {vo : VOp} {E : Env} {H : AH} {v : AV} (hc : vo.cls = 0) (hn : H.g H.nx = .no) (h : vop vo E H = some (v, H)) (l : List AV) : vop vo E (H.al l) = some (v, H.al l) := by
  by_cases hp : vo.pure = true
  · exact pure_any hp h
  · have hg : ∀ b, H.g b ≠ .no → (H.al l).g b = H.g b := by
      intro b hb
      simp only [AH.al]
      rw [if_neg (fun e => hb (by rw [e]; exact hn))]
    cases vo <;> first
      | exact absurd hc (show ¬ ((1 : Nat) = 0) by decide)
      | exact absurd hc (show ¬ ((2 : Nat) = 0) by decide)
      | exact absurd rfl hp
      | skip
    case ld n x =>
      have h1 := (map_pair h).1
      simp only [vop]
      have : vld n (H.al l) (ev E x) = some v := by
        cases hx : ev E x <;> rw [hx] at h1 <;> simp only [vld, reduceCtorEq] at h1 ⊢
        rename_i b o
        obtain ⟨m, hm, rfl⟩ := Option.map_eq_some_iff.1 h1
        refine Option.map_eq_some_iff.2 ⟨m, ?_, rfl⟩
        unfold AH.rd at hm ⊢
        split at hm
        · rename_i hle
          simp only [Option.some.injEq] at hm; subst hm
          by_cases hb : H.g b = .no
          · rw [hb] at hle
            simp only [Blk.cells, List.length_nil, Nat.le_zero_eq, Nat.add_eq_zero_iff] at hle
            obtain ⟨rfl, rfl⟩ := hle
            simp [hb, Blk.cells]
          · rw [hg b hb, if_pos hle]
        · cases hm
      rw [this]; rfl
    case ld1 x =>
      have h1 := (map_pair h).1
      simp only [vop]
      have : vld1 (H.al l) (ev E x) = some v := by
        cases hx : ev E x <;> rw [hx] at h1 <;> simp only [vld1, reduceCtorEq] at h1 ⊢
        rename_i b o
        have hb : H.g b ≠ .no := fun e => by rw [e] at h1; simp [Blk.cells] at h1
        rw [hg b hb]; exact h1
      rw [this]; rfl
    case cvsame x =>
      have h1 := (map_pair h).1
      simp only [vop]
      have : vcvsame (H.al l) (ev E x) = some v := by
        cases hx : ev E x <;> rw [hx] at h1 <;> simp only [vcvsame, reduceCtorEq] at h1 ⊢
        rename_i b o n c
        split at h1
        · rename_i ho
          have hb : H.g b ≠ .no := fun e => by rw [e] at ho; simp [Blk.own] at ho
          rw [hg b hb, if_pos ho]; exact h1
        · cases h1
      rw [this]; rfl
    case slc es x lo hi mx =>
      have h1 := (map_pair h).1
      simp only [vop]
      have : vslc es (H.al l) E (ev E x) lo hi mx = some v := by
        cases hx : ev E x <;> rw [hx] at h1 <;> simp only [vslc, reduceCtorEq] at h1 ⊢
        · exact h1
        · exact h1
        · rename_i b o q n es'
          split at h1
          · rename_i hc
            have hb : H.g b ≠ .no := fun e => by have := hc.2.2.2; rw [e] at this; simp [Blk.isRw] at this
            rw [hg b hb, if_pos hc]; exact h1
          · cases h1
      rw [this]; rfl
    case ia es x i =>
      have h1 := (map_pair h).1
      simp only [vop]
      have : via es (H.al l) (ev E x) (ev E i) = some v := by
        cases hx : ev E x <;> cases hi : ev E i <;> rw [hx, hi] at h1 <;> simp only [via, reduceCtorEq] at h1 ⊢
        · exact h1
        · rename_i b o q n es' k ii
          split at h1
          · rename_i hc
            have hb : H.g b ≠ .no := fun e => by have := hc.2.2.2.1; rw [e] at this; simp [Blk.isRw] at this
            rw [hg b hb, if_pos hc]; exact h1
          · cases h1
      rw [this]; rfl
    case len k x =>
      have h1 := (map_pair h).1
      simp only [vop]
      have : vlen k (H.al l) (ev E x) = some v := by
        generalize ev E x = u at *
        unfold vlen at h1 ⊢
        split
        · exact h1
        · exact h1
        · simp only at h1
          cases u <;> first
            | exact h1
            | skip
          rename_i b
          simp only at h1 ⊢
          cases hb : H.g b <;> rw [hb] at h1 <;> first
            | cases h1
            | skip
          rename_i es
          rw [hg b (by rw [hb]; simp), hb]
          try exact h1
      rw [this]; rfl
    case lkp z ok x i =>
      simp only [vop, Option.bind_eq_some_iff, Option.map_eq_some_iff, Prod.mk.injEq] at h ⊢
      obtain ⟨es, hes, r, hr, h1, _⟩ := h
      refine ⟨es, ?_, r, hr, h1, trivial⟩
      unfold AH.me at hes ⊢
      split at hes
      · exact hes
      · rename_i b hx
        split at hes
        · rename_i es' he
          rw [hg b (by rw [he]; simp), he]; exact hes
        · cases hes
      · cases hes

end Go.AX
