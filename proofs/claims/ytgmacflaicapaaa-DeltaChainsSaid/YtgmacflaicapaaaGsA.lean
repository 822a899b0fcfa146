/- Parts: StA StB StC. -/
import Derived.Test.YtgmacflaicapaaaGeB
import Derived.Test.YtgmacflaicapaaaGxA
import Derived.Shelf.SlSortCmp.WholeK
import Derived.Shelf.SlicesG.Cmp
import Derived.Ground.SlsfProg
import Derived.Ground.SlgcProg
import Derived.Test.YtgmacflaicapaaaProg
section
set_option linter.unusedSimpArgs false
set_option linter.unusedVariables false
set_option maxRecDepth 100000
namespace Go.AX
section
variable {β : Type}
abbrev KAsc (l : List (Int × β)) : Prop := l.Pairwise fun x y => x.1 ≤ y.1
abbrev KDis (l : List (Int × β)) : Prop := l.Pairwise fun x y => x.1 ≠ y.1
def insK (x : Int × β) : List (Int × β) → List (Int × β)
  | [] => [x]
  | y :: l => if x.1 ≤ y.1 then x :: y :: l else y :: insK x l
def sortK : List (Int × β) → List (Int × β)
  | [] => []
  | x :: l => insK x (sortK l)
theorem insK_perm (x : Int × β) : ∀ l : List (Int × β), (insK x l).Perm (x :: l)
  | [] => .refl _
  | y :: l => by
    rw [insK]
    split
    · exact .refl _
    · exact ((insK_perm x l).cons y).trans (.swap x y l)
theorem sortK_perm : ∀ l : List (Int × β), (sortK l).Perm l
  | [] => .refl _
  | x :: l => (insK_perm x _).trans ((sortK_perm l).cons x)
theorem insK_asc (x : Int × β) : ∀ {l : List (Int × β)}, KAsc l → KAsc (insK x l)
  | [], _ => by simp [insK]
  | y :: l, h => by
    have h := List.pairwise_cons.1 h
    rw [insK]
    split
    · rename_i hx
      refine List.pairwise_cons.2 ⟨fun z hz => ?_, List.pairwise_cons.2 h⟩
      rcases List.mem_cons.1 hz with rfl | hz
      · exact hx
      · have := h.1 z hz; omega
    · rename_i hx
      refine List.pairwise_cons.2 ⟨fun z hz => ?_, insK_asc x h.2⟩
      rcases List.mem_cons.1 ((insK_perm x l).mem_iff.1 hz) with rfl | hz
      · omega
      · exact h.1 z hz
theorem sortK_asc : ∀ l : List (Int × β), KAsc (sortK l)
  | [] => .nil
  | x :: l => insK_asc x (sortK_asc l)
theorem kext : ∀ {l m : List (Int × β)}, (l.Pairwise fun x y => x.1 < y.1) → (m.Pairwise fun x y => x.1 < y.1) → (∀ x, x ∈ l ↔ x ∈ m) → l = m
  | [], [], _, _, _ => rfl
  | [], y :: m, _, _, h => by have := (h y).2 (by simp); cases this
  | x :: l, [], _, _, h => by have := (h x).1 (by simp); cases this
  | x :: l, y :: m, hl, hm, h => by
    have hl := List.pairwise_cons.1 hl
    have hm := List.pairwise_cons.1 hm
    have hxy : x = y := by
      rcases List.mem_cons.1 ((h x).1 (by simp)) with e | e
      · exact e
      · rcases List.mem_cons.1 ((h y).2 (by simp)) with f | f
        · exact f.symm
        · have := hm.1 x e
          have := hl.1 y f
          omega
    subst hxy
    congr 1
    refine kext hl.2 hm.2 fun z => ⟨fun hz => ?_, fun hz => ?_⟩
    · rcases List.mem_cons.1 ((h z).1 (by simp [hz])) with e | e
      · have := hl.1 z hz; rw [e] at this; omega
      · exact e
    · rcases List.mem_cons.1 ((h z).2 (by simp [hz])) with e | e
      · have := hm.1 z hz; rw [e] at this; omega
      · exact e
theorem kuniq {l m : List (Int × β)} (hl : KAsc l) (hm : KAsc m) (hd : KDis l) (hp : l.Perm m) : l = m := by
  have hd2 : KDis m := (hp.pairwise_iff (fun h => Ne.symm h)).1 hd
  exact kext ((List.Pairwise.and hl hd).imp fun ⟨h1, h2⟩ => by omega) ((List.Pairwise.and hm hd2).imp fun ⟨h1, h2⟩ => by omega) fun x => hp.mem_iff
end
inductive Al {α β : Type} (R : α → β → Prop) : List α → List β → Prop
  | nil : Al R [] []
  | cons {x : α} {y : β} {l : List α} {m : List β} : R x y → Al R l m → Al R (x :: l) (y :: m)
theorem Al_perm {α β : Type} {R : α → β → Prop} {m m' : List β} (hp : m.Perm m') : ∀ {l : List α}, Al R l m → ∃ l', l.Perm l' ∧ Al R l' m' := by
  induction hp with
  | nil => intro l h; exact ⟨l, .refl _, h⟩
  | cons x _ ih =>
    intro l h
    cases h with
    | cons h1 h2 =>
      obtain ⟨l', g1, g2⟩ := ih h2
      exact ⟨_, g1.cons _, .cons h1 g2⟩
  | swap x y m =>
    intro l h
    cases h with
    | cons h1 h2 => cases h2 with
      | cons h3 h4 => exact ⟨_, .swap _ _ _, .cons h3 (.cons h1 h4)⟩
  | trans _ _ ih1 ih2 =>
    intro l h
    obtain ⟨l1, g1, g2⟩ := ih1 h
    obtain ⟨l2, k1, k2⟩ := ih2 g2
    exact ⟨l2, g1.trans k1, k2⟩
theorem Al_len {α β : Type} {R : α → β → Prop} {l : List α} {m : List β} (h : Al R l m) : l.length = m.length := by
  induction h with
  | nil => rfl
  | cons _ _ ih => simp [ih]
theorem Al_map {α β : Type} (f : α → β) : ∀ (l : List α), Al (fun x y => y = f x) l (l.map f)
  | [] => .nil
  | x :: l => .cons rfl (Al_map f l)
theorem Al_of_map {α β : Type} {f : α → β} {l : List α} {m : List β} (h : Al (fun x y => y = f x) l m) : m = l.map f := by
  induction h with
  | nil => rfl
  | cons h1 _ ih => rw [List.map_cons, h1, ih]
theorem Al_keys {α β : Type} {R : Int × α → Int × β → Prop} (hR : ∀ x y, R x y → y.1 = x.1) {p : Int → Int → Prop} {l : List (Int × α)} {m : List (Int × β)} (h : Al R l m) : (l.Pairwise fun x y => p x.1 y.1) ↔ (m.Pairwise fun x y => p x.1 y.1) := by
  have : l.map (·.1) = m.map (·.1) := by
    induction h with
    | nil => rfl
    | cons h1 _ ih => rw [List.map_cons, List.map_cons, ih, hR _ _ h1]
  rw [← List.pairwise_map (f := fun x : Int × α => x.1) (R := p), ← List.pairwise_map (f := fun x : Int × β => x.1) (R := p), this]
open Go Go.RowKit
abbrev OV := {v : Value // v.oneCell' = true}
instance : Inhabited OV := ⟨⟨.bool false, rfl⟩⟩
abbrev EK := Int × OV
def encK (x : EK) : List Value := [.int .i64 x.1, x.2.1]
def cfK (x y : EK) : Int := Lib.compareInt x.1 y.1
def ov (v : Value) : OV := if h : v.oneCell' = true then ⟨v, h⟩ else default
theorem ov_val {v : Value} (h : v.oneCell' = true) : (ov v).1 = v := by unfold ov; rw [dif_pos h]
theorem ltK (x y : EK) : Go.Proofs.ltOf cfK x y = decide (x.1 < y.1) := by
  unfold Go.Proofs.ltOf cfK Lib.compareInt
  by_cases h1 : x.1 < y.1
  · simp [h1]
  · by_cases h2 : y.1 < x.1 <;> simp [h1, h2]
theorem swoK : Go.Sort.SWO (Go.Proofs.ltOf cfK) where
  irrefl x := by rw [ltK]; simp
  trans x y z h1 h2 := by rw [ltK] at *; simp at *; omega
  ntrans x y z h1 h2 := by rw [ltK] at *; simp at *; omega
def SortC (P : Program) (f g : FuncId) : Prop := ∀ (w : World) (blk cap : Nat) (d : Array EK), Go.Sort.HoldsK encK 2 w blk 0 d → blk < w.heap.size → d.size < 4611686018427387904 →
  Calls P f #[.slice (some ⟨blk, 0, none⟩) d.size cap, .func (.func g) #[] #[]] w fun e w' => e = .returned (.tuple #[]) ∧ ∃ d' n os, Go.Sort.PermIn 0 d.size d d' ∧ Go.Sort.SortedIn (Go.Proofs.ltOf cfK) 0 d.size d' ∧ w' = Go.Proofs.sortWorldK encK 2 w blk 0 n d' os
abbrev EA := Int × AV
def flE : List EA → List AV
  | [] => []
  | e :: r => .it .i64 e.1 :: e.2 :: flE r
def ElR (F : Nat → Prop) (H : AH) (T2 : Ty) (x : Int × T2.den) (e : EA) : Prop := e.1 = x.1 ∧ RcL F H (T2.pcl x.2) [e.2]
abbrev KT (T2 : Ty) : Ty := .pr (.int .i64) T2
theorem pel_k {T2 : Ty} (hT : T2.size = 1) (x : Int × T2.den) : ∃ p, T2.pcl x.2 = [p] ∧ (KT T2).pel x = .ag [.it .i64 x.1, p] := by
  have hp := pcl_len T2 x.2
  rw [hT] at hp
  obtain ⟨p, hp⟩ := List.length_eq_one_iff.1 hp
  refine ⟨p, hp, ?_⟩
  show elemOf ([PV.it .i64 x.1] ++ T2.pcl x.2) = _
  rw [hp]; rfl
theorem RcE_el {F : Nat → Prop} {H : AH} {T2 : Ty} (hT : T2.size = 1) : ∀ {l : List (Int × T2.den)} {cs : List AV}, RcE F H 2 ((KT T2).pl l) cs → ∃ es, cs = flE es ∧ Al (ElR F H T2) l es
  | [], cs, h => ⟨[], h, .nil⟩
  | x :: r, cs, h => by
    obtain ⟨a, c, cs', h1, h2, h3, rfl, h5⟩ := h
    obtain ⟨p, hp, e⟩ := pel_k hT x
    rw [e] at h1
    obtain ⟨l', rfl, u1, m1, rfl, e1, u2, m2, rfl, e2, e3⟩ := h1
    cases h2
    have e1 : u1 = .it .i64 x.1 := e1
    have e3 : m2 = [] := e3
    subst e1; subst e3
    obtain ⟨es, rfl, k⟩ := RcE_el hT h5
    exact ⟨(x.1, u2) :: es, rfl, .cons ⟨rfl, by rw [hp]; exact ⟨u2, [], rfl, e2, rfl⟩⟩ k⟩
theorem RcE_of {F : Nat → Prop} {H : AH} {T2 : Ty} (hT : T2.size = 1) {l : List (Int × T2.den)} {es : List EA} (h : Al (ElR F H T2) l es) : RcE F H 2 ((KT T2).pl l) (flE es) := by
  induction h with
  | nil => rfl
  | cons h1 _ ih =>
    rename_i x e l m _
    obtain ⟨p, hp, ee⟩ := pel_k hT x
    obtain ⟨k1, k2⟩ := h1
    rw [hp] at k2
    obtain ⟨a, m2, hm, k3, k4⟩ := k2
    have k4 : m2 = [] := k4
    subst k4
    cases hm
    refine ⟨.ag [.it .i64 x.1, e.2], [.it .i64 x.1, e.2], flE m, ?_, rfl, rfl, by rw [← k1]; rfl, ih⟩
    rw [ee]
    exact ⟨_, rfl, _, _, rfl, rfl, _, _, rfl, k3, rfl⟩
theorem flE_len : ∀ {es : List EA}, (flE es).length = es.length * 2
  | [] => rfl
  | e :: r => by simp only [flE, List.length_cons, flE_len (es := r)]; omega
theorem flE_mem : ∀ {es : List EA} {e : EA}, e ∈ es → e.2 ∈ flE es
  | e :: r, x, h => by
    simp only [flE]
    rcases List.mem_cons.1 h with rfl | h
    · simp
    · simp [flE_mem h]
theorem flE_of {p : AV → Prop} (hi : ∀ n, p (.it .i64 n)) : ∀ {es : List EA}, (∀ e ∈ es, p e.2) → ∀ v ∈ flE es, p v
  | [], _, v, h => by cases h
  | e :: r, h, v, hv => by
    simp only [flE, List.mem_cons] at hv
    rcases hv with rfl | rfl | hv
    · exact hi _
    · exact h e (by simp)
    · exact flE_of hi (fun x hx => h x (by simp [hx])) v hv
def phi (j : Inj) (e : EA) : EK := (e.1, ov (e.2.con j))
theorem flE_con {j : Inj} : ∀ {es : List EA}, AV.scL (flE es) = true → AV.conL j (flE es) = (es.map (phi j)).flatMap encK
  | [], _ => rfl
  | e :: r, h => by
    have h1 := conL_one (j := j) h (e.2.con j) (by simp [flE, AV.conL])
    have h2 : AV.scL (flE r) = true := by
      simp only [AV.scL, flE, List.all_cons, Bool.and_eq_true] at h ⊢
      exact h.2.2
    simp only [flE, AV.conL, List.map_cons, List.flatMap_cons, flE_con h2, phi, encK, ov_val h1, AV.con]
    rfl
theorem flatK_get : ∀ (l : List EK) (t : Nat), t < l.length * 2 → (l.flatMap encK)[t]? = some ((encK (l.getD (t / 2) default))[t % 2]!)
  | [], t, h => by simp at h
  | x :: r, 0, h => rfl
  | x :: r, 1, h => rfl
  | x :: r, t + 2, h => by
    have := flatK_get r t (by simp only [List.length_cons] at h; omega)
    rw [List.flatMap_cons, show (t + 2) / 2 = t / 2 + 1 by omega, show (t + 2) % 2 = t % 2 by omega, List.getD_cons_succ, ← this]
    rw [List.getElem?_append_right (by simp [encK])]
    simp [encK]
theorem arr_get (d : Array EK) (i : Nat) : d[i]! = d.toList.getD i default := by
  rw [Array.getElem!_eq_getD, Array.getD_eq_getD_getElem?, List.getD_eq_getElem?_getD, Array.getElem?_toList]
theorem flatK_at (d : Array EK) {t : Nat} (h : t < d.size * 2) : (d.toList.flatMap encK)[t]? = some (Go.Sort.flatK encK 2 d)[t]! := by
  rw [Go.Sort.get_flatK encK 2 d t h, arr_get, flatK_get _ _ (by simpa using h)]
theorem holds_of {w : World} {k : Nat} {cs : Array Value} {t : TypeId} {fr : Nat × Nat} (g1 : w.heap[k]? = some (.cells cs t fr)) (g7 : fr.1 = fr.2 ∨ cs.size ≤ fr.1) {d : Array EK}
    (h : ∀ (i : Nat) v, (d.toList.flatMap encK)[i]? = some v → cs[i]? = some v) : Go.Sort.HoldsK encK 2 w k 0 d := by
  intro i hi
  rw [Go.Sort.size_flatK] at hi
  have := h i _ (flatK_at d hi)
  have hlt := (Array.getElem?_eq_some_iff.1 this).1
  refine ⟨?_, ?_⟩
  · rw [Nat.zero_add]
    simp only [World.cell?, g1]
    exact this
  · rw [Nat.zero_add]
    simp [World.frozen?, g1]
    intro h3
    omega
theorem putRowK_at {w : World} {k : Nat} {cs : Array Value} {t : TypeId} {fr : Nat × Nat} (g1 : w.heap[k]? = some (.cells cs t fr)) (n : Nat) (d : Array EK) :
    (Go.Sort.putRowK encK 2 (Go.Sort.ahead w n) k 0 d).heap[k]? = some (.cells (Go.Sort.putCells id 0 (Go.Sort.flatK encK 2 d) cs) t fr) := by
  simp [Go.Sort.putRowK, Go.Sort.putRow, Go.Sort.mapBlock, Array.getElem?_modify, Go.Sort.ahead, g1, Go.Sort.onCells]
theorem putRowK_other {w : World} {k k' : Nat} (h : k' ≠ k) (n : Nat) (d : Array EK) : (Go.Sort.putRowK encK 2 (Go.Sort.ahead w n) k 0 d).heap[k']? = w.heap[k']? := by
  simp [Go.Sort.putRowK, Go.Sort.putRow, Go.Sort.mapBlock, Array.getElem?_modify, Go.Sort.ahead, Ne.symm h]
theorem below_grow (w : World) (os : Array Obj) : Below w.heap.size w (Go.Sort.grow w os) :=
  ⟨rfl, rfl, rfl, by simp [Go.Sort.grow], fun k hk => Go.Sort.heap_grow_old w os hk⟩
end Go.AX
end
section
set_option linter.unusedSimpArgs false
set_option linter.unusedVariables false
set_option maxRecDepth 100000
namespace Go.AX
open Go Go.RowKit
abbrev sgSort (g : FuncId) (T2 : Ty) : Sig := ⟨⟨[(0, .gr 0), (1, .fn g [] [])], [.gs true (.pr (.int .i64) T2)]⟩, [⟨[], [.gs true (.pr (.int .i64) T2)]⟩]⟩
def sortG (T2 : Ty) (l : List (Int × T2.den)) : Option (List (Int × T2.den)) := bif Nat.blt 0 l.length && (Nat.ble l.length 1000000 && decide (KDis l)) then some (sortK l) else none
theorem ext_whole (d : Array EK) {n : Nat} (h : d.size = n) : (d.extract 0 n).toList = d.toList := by
  subst h; simp
theorem sort_ok {P : Program} {f g : FuncId} {T2 : Ty} (hT : T2.size = 1) (hb : bdB P f = true) (hc : SortC P f g) : FnOK P f (sgSort g T2) (sortG T2) := by
  refine ⟨Bd_of hb, fun (l : List (Int × T2.den)) (y : List (Int × T2.den)) hy => ?_⟩
  obtain ⟨h1, h2⟩ := bif_some hy
  cases h2
  simp only [Bool.and_eq_true] at h1
  obtain ⟨h0, hsz, hd⟩ := h1
  have h0 : 0 < l.length := by rw [Nat.blt_eq] at h0; exact h0
  have hsz : l.length ≤ 1000000 := Nat.le_of_ble_eq_true hsz
  have hd : KDis l := of_decide_eq_true hd
  have hs2 : (KT T2).size = 2 := by simp only [Ty.size, hT]
  show PCall P f [.gs true (KT T2).size ((KT T2).pl l)] [.gr 0, .fn (.func g) [] []] [.gs true (KT T2).size ((KT T2).pl (sortK l))] (.tu []) [0]
  rw [hs2]
  intro L H avs hR ha
  obtain ⟨a1, m1, rfl, ⟨hn0, rfl, hcl⟩, a2, m2, rfl, ⟨p', c', rfl, rfl, rfl⟩, rfl⟩ := ha
  obtain ⟨hG, _⟩ := hR.bk 0 _ rfl
  rcases hG with ⟨_, he⟩ | ⟨X, hF, hX⟩
  · have := congrArg List.length (he rfl)
    simp at this
    rw [this] at h0
    simp at h0
  obtain ⟨cs, sp, hXn, hg, hE, hA⟩ := hX
  obtain ⟨es, rfl, hAl⟩ := RcE_el hT hE
  have hlen := Al_len hAl
  have hdis : KDis es := (Al_keys (p := fun a b => a ≠ b) (fun x y h => h.1) hAl).1 hd
  obtain ⟨l', hp1, hAl'⟩ := Al_perm (sortK_perm es).symm hAl
  have hl' : l' = sortK l := kuniq ((Al_keys (p := fun a b => a ≤ b) (fun x y h => h.1) hAl').2 (sortK_asc es)) (sortK_asc l) ((hp1.pairwise_iff (fun h => Ne.symm h)).1 hd) (hp1.symm.trans (sortK_perm l).symm)
  subst hl'
  have hls : (sortK l).length = l.length := (sortK_perm l).length_eq
  have hes : (sortK es).length = es.length := (sortK_perm es).length_eq
  have hbX : (L.m 0).bk = some X := by rcases hA with ⟨e, _⟩ | ⟨c, _, e, _⟩ <;> rw [e] <;> rfl
  have st : Stay L.F H L.F (H.up X (flE (sortK es) ++ sp)) := ⟨Nat.le_refl _, fun _ h => h, fun Y hY => up_other (fun e => hF (e ▸ hY))⟩
  have did := did_up hR (b := 0) (X := X) (p' := .gs true 2 ((KT T2).pl (sortK l))) (cs' := flE (sortK es) ++ sp) (r := some (.tu [], H.up X (flE (sortK es) ++ sp))) rfl rfl rfl hbX hF rfl
    ⟨.inr ⟨X, hF, flE (sortK es), sp, hXn, by simp [AH.up], RcE.mono st 2 _ (RcE_of hT hAl'), by
      rw [List.length_map] at hA ⊢
      rw [hls]; exact hA⟩, hcl⟩
  obtain ⟨_, hev, hhr, hrp, hun⟩ := did
  refine ⟨.tu [], H.up X (flE (sortK es) ++ sp), L, fun base D j w S hok => ?_, hev, hhr, hrp, hun⟩
  have hDX : D X := by
    have := hok.1
    rcases hA with ⟨e, _⟩ | ⟨c, _, e, _⟩ <;> rw [e] at this <;> exact this
  obtain ⟨⟨c0, t, fr, g1, g2, g5, g6, g7⟩, g3, g4, g8, g9, g10⟩ := S.rw X _ hDX hg
  have hsc : AV.scL (flE es) = true := by
    rw [AV.scL, List.all_eq_true] at g4 ⊢
    exact fun v hv => g4 v (List.mem_append_left _ hv)
  have hsc' : AV.scL (flE (sortK es)) = true := by
    rw [AV.scL, List.all_eq_true] at hsc ⊢
    exact flE_of (fun n => rfl) (fun e he => hsc _ (flE_mem ((sortK_perm es).mem_iff.1 he)))
  have hlc := g6
  rw [conL_length, List.length_append, flE_len] at hlc
  have hblk : (j X).k < w.heap.size := (Array.getElem?_eq_some_iff.1 g1).1
  have hcon : ∃ cap, (L.m 0).con j = .slice (some ⟨(j X).k, 0, none⟩) es.length cap := by
    rw [List.length_map, hlen] at hA
    rcases hA with ⟨e, _⟩ | ⟨c, _, e, _⟩
    · rw [e]; exact ⟨((j X).e - 0) / 2, by simp only [AV.con, ite_self]⟩
    · rw [e]; exact ⟨c, by simp only [AV.con, at_own g9 g10]⟩
  obtain ⟨cap, hcon⟩ := hcon
  generalize hdd : (es.map (phi j)).toArray = d
  have hdl : d.toList = es.map (phi j) := by rw [← hdd]
  have hds : d.size = es.length := by rw [← hdd]; simp
  have hH : Go.Sort.HoldsK encK 2 w (j X).k 0 d := holds_of g1 g7 fun i v hv => g2 i v (by
    rw [hdl, ← flE_con hsc] at hv
    rw [conL_append, List.getElem?_append_left (List.getElem?_eq_some_iff.1 hv).1]
    exact hv)
  have real := hc w (j X).k cap d hH hblk (by omega)
  have hargs : (AV.conL j [L.m 0, .fn (.func g) [] []]).toArray = #[.slice (some ⟨(j X).k, 0, none⟩) d.size cap, .func (.func g) #[] #[]] := by
    simp only [AV.conL, hcon, AV.con, hds]
  rw [hargs]
  refine real.mono ?_
  rintro e w' ⟨rfl, d', n, os, hp, hsrt, rfl⟩
  have hds' : d'.size = es.length := hp.1.trans hds
  have hpl : d'.toList.Perm d.toList := by
    have := hp.2.2
    rwa [ext_whole d' hp.1, ext_whole d rfl] at this
  obtain ⟨es2, q1, q2⟩ := Al_perm (m := d.toList) (m' := d'.toList) hpl.symm (by rw [hdl]; exact Al_map (phi j) es)
  have q3 := Al_of_map q2
  have q4 : es2 = sortK es := by
    refine kuniq ?_ (sortK_asc es) ((q1.pairwise_iff (fun h => Ne.symm h)).1 hdis) (q1.symm.trans (sortK_perm es).symm)
    have hl2 : es2.length = d'.size := by
      have := congrArg List.length q3
      simpa using this.symm
    refine List.pairwise_iff_getElem.2 fun i k hi hk hik => ?_
    have := hsrt i k (Nat.zero_le _) hik (by rw [hds, ← hds', ← hl2]; exact hk)
    rw [ltK, arr_get, arr_get, q3] at this
    have this := of_decide_eq_false this
    have e1 : ((es2.map (phi j)).getD i default).1 = es2[i].1 := by simp [List.getD_eq_getElem?_getD, hi, phi]
    have e2 : ((es2.map (phi j)).getD k default).1 = es2[k].1 := by simp [List.getD_eq_getElem?_getD, hk, phi]
    rw [e1, e2] at this
    omega
  subst q4
  have hF' : (Go.Sort.flatK encK 2 d').size = es.length * 2 := by rw [Go.Sort.size_flatK, hds']
  have up := S.up hDX hg (l' := flE (sortK es) ++ sp) (by
      rw [okL_iff] at g3 ⊢
      intro v hv
      rcases List.mem_append.1 hv with hv | hv
      · exact flE_of (p := fun v => v.ok D) (fun n => by simp only [AV.ok]) (fun e he => g3 _ (List.mem_append_left _ (flE_mem ((sortK_perm es).mem_iff.1 he)))) v hv
      · exact g3 v (List.mem_append_right _ hv)) (by
      rw [AV.scL, List.all_eq_true] at g4 hsc' ⊢
      intro v hv
      rcases List.mem_append.1 hv with hv | hv
      · exact hsc' v hv
      · exact g4 v (List.mem_append_right _ hv)) (w' := Go.Sort.putRowK encK 2 (Go.Sort.ahead w n) (j X).k 0 d') g1 (putRowK_at g1 n d') (by simp [Go.Sort.putCells]) (by rw [List.length_append, flE_len, hes]; omega) (fun i v hv => by
      have hilt := (List.getElem?_eq_some_iff.1 hv).1
      rw [conL_length, List.length_append, flE_len, hes] at hilt
      have hci : i < c0.size := by omega
      simp only [Go.Sort.putCells, Array.getElem?_mapIdx, hF', Nat.zero_le, true_and, Nat.zero_add, Nat.sub_zero, id]
      rw [Array.getElem?_eq_getElem hci, Option.map_some]
      by_cases hi : i < es.length * 2
      · rw [if_pos hi]
        rw [conL_append, List.getElem?_append_left (by rw [conL_length, flE_len, hes]; exact hi), flE_con hsc', ← q3, flatK_at d' (by rw [hds']; exact hi)] at hv
        exact hv
      · rw [if_neg hi, ← Array.getElem?_eq_getElem hci]
        refine g2 i v ?_
        rw [conL_append, List.getElem?_append_right (by rw [conL_length, flE_len]; omega), conL_length, flE_len]
        rw [conL_append, List.getElem?_append_right (by rw [conL_length, flE_len, hes]; omega), conL_length, flE_len, hes] at hv
        exact hv) (fun k hk => putRowK_other hk n d') (by simp [Go.Sort.putRowK, Go.Sort.putRow, Go.Sort.mapBlock, Go.Sort.ahead]) rfl rfl rfl
  exact ⟨j, rfl, by simp [AEnd.ok, AV.ok, AV.okL], up.trans (Post.below up.sim (below_grow _ os)) S.lt⟩
def orG {α β : Type} (g1 g2 : α → Option β) : α → Option β := fun x => match g1 x with | some y => some y | none => g2 x
theorem FnOK_or {P : Program} {f : FuncId} {sg : Sig} {g1 g2 : Val sg.a.den → Option (RV sg.r)} (h1 : FnOK P f sg g1) (h2 : FnOK P f sg g2) : FnOK P f sg (orG g1 g2) := by
  refine ⟨h1.1, fun x y hy => ?_⟩
  unfold orG at hy
  split at hy
  · rename_i z hz
    have hy := Option.some.inj hy
    subst hy
    exact h1.2 x _ hz
  · exact h2.2 x y hy
end Go.AX
end
section
set_option linter.unusedSimpArgs false
set_option linter.unusedVariables false
namespace Go.Proofs
open Go.Shelf Go.RowKit Go.Lib Go.Sort
def Try.sortBlk_ren : Go.Shelf.Ren := ⟨fun | 6 => 45 | 15 => 73 | 14 => 72 | 28 => 98 | 29 => 99 | 20 => 90 | 21 => 91 | 22 => 92 | 23 => 93 | 24 => 94 | 25 => 95 | 26 => 96 | 27 => 97 | 46 => 105 | 47 => 106 | 48 => 107 | 49 => 108 | 50 => 109 | 57 => 111 | n => n, fun | 22 => 25 | 24 => 46 | 25 => 66 | 3 => 3 | 39 => 90 | 0 => 0 | 53 => 24 | 55 => 58 | 4 => 4 | 46 => 111 | 45 => 110 | 50 => 84 | 5 => 5 | 9 => 9 | 66 => 120 | 70 => 124 | 76 => 127 | 77 => 128 | n => n, fun | n => n⟩
theorem Try.sortBlk : Go.Proofs.SlLaysF0.n6 Try.prog Try.sortBlk_ren := {
  mixed := by kernel_rfl
  f6 := ⟨Try.f45.name, by decide, Try.func45.trans (congrArg some (by kernel_rfl))⟩
  f14 := ⟨Try.f72.name, by decide, Try.func72.trans (congrArg some (by kernel_rfl))⟩
  f15 := Try.func73.trans (congrArg some (by kernel_rfl))
  f20 := ⟨Try.f90.name, by decide, Try.func90.trans (congrArg some (by kernel_rfl))⟩
  f21 := ⟨Try.f91.name, by decide, Try.func91.trans (congrArg some (by kernel_rfl))⟩
  f22 := ⟨Try.f92.name, by decide, Try.func92.trans (congrArg some (by kernel_rfl))⟩
  f23 := ⟨Try.f93.name, by decide, Try.func93.trans (congrArg some (by kernel_rfl))⟩
  f24 := ⟨Try.f94.name, by decide, Try.func94.trans (congrArg some (by kernel_rfl))⟩
  f25 := ⟨Try.f95.name, by decide, Try.func95.trans (congrArg some (by kernel_rfl))⟩
  f26 := ⟨Try.f96.name, by decide, Try.func96.trans (congrArg some (by kernel_rfl))⟩
  f27 := ⟨Try.f97.name, by decide, Try.func97.trans (congrArg some (by kernel_rfl))⟩
  f28 := Try.func98.trans (congrArg some (by kernel_rfl))
  f29 := Try.func99.trans (congrArg some (by kernel_rfl))
  f46 := ⟨Try.f105.name, by decide, Try.func105.trans (congrArg some (by kernel_rfl))⟩
  f47 := Try.func106.trans (congrArg some (by kernel_rfl))
  f48 := Try.func107.trans (congrArg some (by kernel_rfl))
  f49 := ⟨Try.f108.name, by decide, Try.func108.trans (congrArg some (by kernel_rfl))⟩
  f50 := ⟨Try.f109.name, by decide, Try.func109.trans (congrArg some (by kernel_rfl))⟩
  f57 := ⟨Try.f111.name, by decide, Try.func111.trans (congrArg some (by kernel_rfl))⟩
  t0 := Try.underlying0
  a0 := Try.isAgg0
  z0 := Try.sizeOf0
  v0 := Try.zeroValue0
  t3 := Try.underlying3
  a3 := Try.isAgg3
  z3 := Try.sizeOf3
  v3 := Try.zeroValue3
  t4 := Try.underlying4
  a4 := Try.isAgg4
  z4 := Try.sizeOf4
  v4 := Try.zeroValue4
  t5 := Try.underlying5
  a5 := Try.isAgg5
  z5 := Try.sizeOf5
  v5 := Try.zeroValue5
  t9 := Try.underlying9
  a9 := Try.isAgg9
  z9 := Try.sizeOf9
  v9 := Try.zeroValue9
  t22 := Try.underlying25
  a22 := Try.isAgg25
  z22 := Try.sizeOf25
  v22 := Try.zeroValue25
  t25 := Try.underlying66
  a25 := Try.isAgg66
  z25 := Try.sizeOf66
  v25 := Try.zeroValue66
  t39 := Try.underlying90
  a39 := Try.isAgg90
  z39 := Try.sizeOf90
  v39 := Try.zeroValue90
  t45 := Try.underlying110
  a45 := Try.isAgg110
  z45 := Try.sizeOf110
  v45 := Try.zeroValue110
  t46 := Try.underlying111
  a46 := Try.isAgg111
  z46 := Try.sizeOf111
  v46 := Try.zeroValue111
  t50 := Try.underlying84
  a50 := Try.isAgg84
  z50 := Try.sizeOf84
  v50 := Try.zeroValue84
  t53 := Try.underlying24
  a53 := Try.isAgg24
  z53 := Try.sizeOf24
  v53 := Try.zeroValue24
  t55 := Try.underlying58
  a55 := Try.isAgg58
  z55 := Try.sizeOf58
  v55 := Try.zeroValue58
  t66 := Try.underlying120
  a66 := Try.isAgg120
  z66 := Try.sizeOf120
  v66 := Try.zeroValue120
  t70 := Try.underlying124
  a70 := Try.isAgg124
  z70 := Try.sizeOf124
  v70 := Try.zeroValue124
  t76 := Try.underlying127
  a76 := Try.isAgg127
  z76 := Try.sizeOf127
  v76 := Try.zeroValue127
  t77 := Try.underlying128
  a77 := Try.isAgg128
  z77 := Try.sizeOf128
  v77 := Try.zeroValue128 }
def Try.cmpIntL_ren : Go.Shelf.Ren := ⟨fun | 5 => 47 | 7 => 74 | n => n, fun | 22 => 3 | 3 => 3 | 4 => 4 | n => n, fun | n => n⟩
theorem Try.cmpIntL : Go.Proofs.SlLaysC2.n5 Try.prog Try.cmpIntL_ren := {
  mixed := by kernel_rfl
  f5 := ⟨Try.f47.name, by decide, Try.func47.trans (congrArg some (by kernel_rfl))⟩
  f7 := ⟨Try.f74.name, by decide, Try.func74.trans (congrArg some (by kernel_rfl))⟩
  t3 := Try.underlying3
  a3 := Try.isAgg3
  z3 := Try.sizeOf3
  v3 := Try.zeroValue3
  t4 := Try.underlying4
  a4 := Try.isAgg4
  z4 := Try.sizeOf4
  v4 := Try.zeroValue4
  t22 := Try.underlying3
  a22 := Try.isAgg3
  z22 := Try.sizeOf3
  v22 := Try.zeroValue3 }
set_option maxHeartbeats 1000000 in
theorem Try.closure46 (a b : Int) (u v : Value) (hu : u.oneCell' = true) (hv : v.oneCell' = true) (W : World) : Calls Try.prog 46 #[.agg #[.int .i64 a, u], .agg #[.int .i64 b, v]] W fun e w' => e = .returned (.int .i64 (Lib.compareInt a b)) ∧ ∃ q os', w' = grow (W.drewN q) os' := by
  have hcon := fun W' => AnyG.cmp_Compare_int Try.cmpIntL a b W'
  change ∀ W', Calls Try.prog 47 _ _ _ at hcon
  generalize Lib.compareInt a b = r at hcon ⊢
  go_enter Try.func46, Try.ntmps46
  go_wp2_with (go_at_call 47; refine (hcon _).mono ?_; rintro e w' ⟨rfl, rfl⟩)
  go_ret
  exact ⟨rfl, 0, _, by rw [alloc_eq_grow, alloc_eq_grow, grow_grow]; rfl⟩
open Go.AX (encK cfK swoK) in
theorem sortC_Block : Go.AX.SortC Try.prog 45 46 := by
  intro w blk cap d hH hblk hsz
  have eg : ∀ args w, (callFunc 46 args).run Try.prog w = .ok (.enter 46 args) w := enters_of Try.func46 (by kernel_rfl) rfl
  have hcon := AnyQ.slices_SortFunc Try.sortBlk 2 Try.isAgg46 Try.sizeOf46 encK (fun _ => rfl) (fun x v hv => by
    simp only [encK, List.mem_cons, List.not_mem_nil, or_false] at hv
    rcases hv with rfl | rfl
    · rfl
    · exact x.2.2) cfK swoK 46 #[] blk 0 cap d w eg (fun _ _ _ _ x y => Try.closure46 x.1 y.1 x.2.1 y.2.1 x.2.2 y.2.2 _) hH hblk hsz
  exact hcon
end Go.Proofs
end
