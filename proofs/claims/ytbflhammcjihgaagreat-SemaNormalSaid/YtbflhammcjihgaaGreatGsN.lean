/- Parts: StA StF StG StH. -/
import Derived.Test.YtbflhammcjihgaaGreatGeB
import Derived.Test.YtbflhammcjihgaaGreatGxA
import Derived.Shelf.SlSortCmp.WholeK
import Derived.Shelf.SlicesG.Cmp
import Derived.Ground.SlsfProg
import Derived.Ground.SlgcProg
import Derived.Test.YtbflhammcjihgaaGreatProg
set_option linter.unusedSimpArgs false
set_option linter.unusedVariables false
set_option maxRecDepth 100000
section
namespace Go.AX
section
variable {β : Type}
abbrev KAsc (l : List (Int × β)) : Prop := l.Pairwise fun x y => x.1 ≤ y.1
abbrev KDis (l : List (Int × β)) : Prop := l.Pairwise fun x y => x.1 ≠ y.1
def insK (x : Int × β) : List (Int × β) → List (Int × β)
 | [] => [x]
 | y :: l => if x.1 ≤ y.1 then x :: y :: l else y :: insK x l
def sortK : List (Int × β) → List (Int × β)
 | [] => []
 | x :: l => insK x (sortK l)
theorem insK_perm (x : Int × β) : ∀ l : List (Int × β), (insK x l).Perm (x :: l)
 | [] => .refl _
 | y :: l => by
  rw [insK]
  split
  ·exact .refl _
  ·exact ((insK_perm x l).cons y).trans (.swap x y l)
theorem sortK_perm : ∀ l : List (Int × β), (sortK l).Perm l
 | [] => .refl _
 | x :: l => (insK_perm x _).trans ((sortK_perm l).cons x)
theorem insK_asc (x : Int × β) : ∀ {l : List (Int × β)}, KAsc l → KAsc (insK x l)
 | [], _ => by simp [insK]
 | y :: l, h => by
  have h := List.pairwise_cons.1 h
  rw [insK]
  split
  ·rename_i hx
   refine List.pairwise_cons.2 ⟨fun z hz => ?_, List.pairwise_cons.2 h⟩
   rcases List.mem_cons.1 hz with rfl | hz
   ·exact hx
   ·have := h.1 z hz; omega
  ·rename_i hx
   refine List.pairwise_cons.2 ⟨fun z hz => ?_, insK_asc x h.2⟩
   rcases List.mem_cons.1 ((insK_perm x l).mem_iff.1 hz) with rfl | hz
   ·omega
   ·exact h.1 z hz
theorem sortK_asc : ∀ l : List (Int × β), KAsc (sortK l)
 | [] => .nil
 | x :: l => insK_asc x (sortK_asc l)
theorem kext : ∀ {l m : List (Int × β)}, (l.Pairwise fun x y => x.1 < y.1) → (m.Pairwise fun x y => x.1 < y.1) → (∀ x, x ∈ l ↔ x ∈ m) → l = m
 | [], [], _, _, _ => rfl
 | [], y :: m, _, _, h => by have := (h y).2 (by simp); cases this
 | x :: l, [], _, _, h => by have := (h x).1 (by simp); cases this
 | x :: l, y :: m, hl, hm, h => by
  have hl := List.pairwise_cons.1 hl
  have hm := List.pairwise_cons.1 hm
  have hxy : x = y := by
   rcases List.mem_cons.1 ((h x).1 (by simp)) with e | e
   ·exact e
   ·rcases List.mem_cons.1 ((h y).2 (by simp)) with f | f
    ·exact f.symm
    ·have := hm.1 x e
     have := hl.1 y f
     omega
  subst hxy
  congr 1
  refine kext hl.2 hm.2 fun z => ⟨fun hz => ?_, fun hz => ?_⟩
  ·rcases List.mem_cons.1 ((h z).1 (by simp [hz])) with e | e
   ·have := hl.1 z hz; rw [e] at this; omega
   ·exact e
  ·rcases List.mem_cons.1 ((h z).2 (by simp [hz])) with e | e
   ·have := hm.1 z hz; rw [e] at this; omega
   ·exact e
theorem kuniq {l m : List (Int × β)} (hl : KAsc l) (hm : KAsc m) (hd : KDis l) (hp : l.Perm m) : l = m := by
 have hd2 : KDis m := (hp.pairwise_iff (fun h => Ne.symm h)).1 hd
 exact kext ((List.Pairwise.and hl hd).imp fun ⟨h1, h2⟩ => by omega) ((List.Pairwise.and hm hd2).imp fun ⟨h1, h2⟩ => by omega) fun x => hp.mem_iff
end
inductive Al {α β : Type} (R : α → β → Prop) : List α → List β → Prop
 | nil : Al R [] []
 | cons {x : α} {y : β} {l : List α} {m : List β} : R x y → Al R l m → Al R (x :: l) (y :: m)
theorem Al_perm {α β : Type} {R : α → β → Prop} {m m' : List β} (hp : m.Perm m') : ∀ {l : List α}, Al R l m → ∃ l', l.Perm l' ∧ Al R l' m' := by
 induction hp with
 | nil => intro l h; exact ⟨l, .refl _, h⟩
 | cons x _ ih =>
  intro l h
  cases h with
  | cons h1 h2 =>
   obtain ⟨l', g1, g2⟩ := ih h2
   exact ⟨_, g1.cons _, .cons h1 g2⟩
 | swap x y m =>
  intro l h
  cases h with
  | cons h1 h2 => cases h2 with
   | cons h3 h4 => exact ⟨_, .swap _ _ _, .cons h3 (.cons h1 h4)⟩
 | trans _ _ ih1 ih2 =>
  intro l h
  obtain ⟨l1, g1, g2⟩ := ih1 h
  obtain ⟨l2, k1, k2⟩ := ih2 g2
  exact ⟨l2, g1.trans k1, k2⟩
theorem Al_len {α β : Type} {R : α → β → Prop} {l : List α} {m : List β} (h : Al R l m) : l.length = m.length := by
 induction h with
 | nil => rfl
 | cons _ _ ih => simp [ih]
theorem Al_map {α β : Type} (f : α → β) : ∀ (l : List α), Al (fun x y => y = f x) l (l.map f)
 | [] => .nil
 | x :: l => .cons rfl (Al_map f l)
theorem Al_of_map {α β : Type} {f : α → β} {l : List α} {m : List β} (h : Al (fun x y => y = f x) l m) : m = l.map f := by
 induction h with
 | nil => rfl
 | cons h1 _ ih => rw [List.map_cons, h1, ih]
theorem Al_keys {α β : Type} {R : Int × α → Int × β → Prop} (hR : ∀ x y, R x y → y.1 = x.1) {p : Int → Int → Prop} {l : List (Int × α)} {m : List (Int × β)} (h : Al R l m) : (l.Pairwise fun x y => p x.1 y.1) ↔ (m.Pairwise fun x y => p x.1 y.1) := by
 have : l.map (·.1) = m.map (·.1) := by
  induction h with
  | nil => rfl
  | cons h1 _ ih => rw [List.map_cons, List.map_cons, ih, hR _ _ h1]
 rw [← List.pairwise_map (f := fun x : Int × α => x.1) (R := p), ← List.pairwise_map (f := fun x : Int × β => x.1) (R := p), this]
open Go Go.RowKit
abbrev OV := {v : Value // v.oneCell' = true}
instance : Inhabited OV := ⟨⟨.bool false, rfl⟩⟩
abbrev EK := Int × OV
def encK (x : EK) : List Value := [.int .i64 x.1, x.2.1]
def cfK (x y : EK) : Int := Lib.compareInt x.1 y.1
def ov (v : Value) : OV := if h : v.oneCell' = true then ⟨v, h⟩ else default
def SortC (P : Program) (f g : FuncId) : Prop := ∀ (w : World) (blk cap : Nat) (d : Array EK), Go.Sort.HoldsK encK 2 w blk 0 d → blk < w.heap.size → d.size < 4611686018427387904 →
 Calls P f #[.slice (some ⟨blk, 0, none⟩) d.size cap, .func (.func g) #[] #[]] w fun e w' => e = .returned (.tuple #[]) ∧ ∃ d' n os, Go.Sort.PermIn 0 d.size d d' ∧ Go.Sort.SortedIn (Go.Proofs.ltOf cfK) 0 d.size d' ∧ w' = Go.Proofs.sortWorldK encK 2 w blk 0 n d' os
abbrev EA := Int × AV
def flE : List EA → List AV
 | [] => []
 | e :: r => .it .i64 e.1 :: e.2 :: flE r
def ElR (F : Nat → Prop) (H : AH) (T2 : Ty) (x : Int × T2.den) (e : EA) : Prop := e.1 = x.1 ∧ RcL F H (T2.pcl x.2) [e.2]
abbrev KT (T2 : Ty) : Ty := .pr (.int .i64) T2
def phi (j : Inj) (e : EA) : EK := (e.1, ov (e.2.con j))
end Go.AX
end
section
namespace Go.AX
open Go Go.RowKit
abbrev OL (k : Nat) := {l : List Value // l.length = k ∧ ∀ v ∈ l, v.oneCell' = true}
instance (k : Nat) : Inhabited (OL k) := ⟨⟨List.replicate k (.bool false), by simp, fun v hv => by rw [List.eq_of_mem_replicate hv]; rfl⟩⟩
abbrev EW (k : Nat) := Int × OL k
def encW {k : Nat} (x : EW k) : List Value := .int .i64 x.1 :: x.2.1
def cfW {k : Nat} (x y : EW k) : Int := Lib.compareInt x.1 y.1
theorem encW_len {k : Nat} (x : EW k) : (encW x).length = k + 1 := by simp [encW, x.2.2.1]
def ol (k : Nat) (l : List Value) : OL k := if h : l.length = k ∧ ∀ v ∈ l, v.oneCell' = true then ⟨l, h⟩ else default
theorem ol_val {k : Nat} {l : List Value} (h : l.length = k ∧ ∀ v ∈ l, v.oneCell' = true) : (ol k l).1 = l := by unfold ol; rw [dif_pos h]
theorem ltW {k : Nat} (x y : EW k) : Go.Proofs.ltOf cfW x y = decide (x.1 < y.1) := by
 unfold Go.Proofs.ltOf cfW Lib.compareInt
 by_cases h1 : x.1 < y.1
 ·simp [h1]
 ·by_cases h2 : y.1 < x.1 <;> simp [h1, h2]
theorem swoW {k : Nat} : Go.Sort.SWO (Go.Proofs.ltOf (cfW (k := k))) where
 irrefl x := by rw [ltW]; simp
 trans x y z h1 h2 := by rw [ltW] at *; simp at *; omega
 ntrans x y z h1 h2 := by rw [ltW] at *; simp at *; omega
def SortW (k : Nat) (P : Program) (f g : FuncId) : Prop := ∀ (w : World) (blk cap : Nat) (d : Array (EW k)), Go.Sort.HoldsK encW (k + 1) w blk 0 d → blk < w.heap.size → d.size < 4611686018427387904 →
 Calls P f #[.slice (some ⟨blk, 0, none⟩) d.size cap, .func (.func g) #[] #[]] w fun e w' => e = .returned (.tuple #[]) ∧ ∃ d' n os, Go.Sort.PermIn 0 d.size d d' ∧ Go.Sort.SortedIn (Go.Proofs.ltOf cfW) 0 d.size d' ∧ w' = Go.Proofs.sortWorldK encW (k + 1) w blk 0 n d' os
abbrev EB := Int × List AV
def flB : List EB → List AV
 | [] => []
 | e :: r => .it .i64 e.1 :: (e.2 ++ flB r)
def ElB (F : Nat → Prop) (H : AH) (T2 : Ty) (x : Int × T2.den) (e : EB) : Prop := e.1 = x.1 ∧ RcL F H (T2.pcl x.2) e.2
theorem pel_w {T2 : Ty} (hT : 0 < T2.size) (x : Int × T2.den) : (KT T2).pel x = .ag (.it .i64 x.1 :: T2.pcl x.2) := by
 have hp := pcl_len T2 x.2
 show elemOf ([PV.it .i64 x.1] ++ T2.pcl x.2) = _
 cases h : T2.pcl x.2 with
 | nil => rw [h] at hp; simp at hp; omega
 | cons a l => rfl
theorem RcL_len2 {F : Nat → Prop} {H : AH} : ∀ {ps : List PV} {cs : List AV}, RcL F H ps cs → cs.length = ps.length
 | [], cs, h => by have h : cs = [] := h; rw [h]; rfl
 | p :: ps, cs, h => by
  obtain ⟨u, m, rfl, _, h2⟩ := h
  rw [List.length_cons, List.length_cons, RcL_len2 h2]
theorem RcE_elW {F : Nat → Prop} {H : AH} {T2 : Ty} (hT : 0 < T2.size) : ∀ {l : List (Int × T2.den)} {cs : List AV}, RcE F H (T2.size + 1) ((KT T2).pl l) cs → ∃ es, cs = flB es ∧ Al (ElB F H T2) l es
 | [], cs, h => ⟨[], h, .nil⟩
 | x :: r, cs, h => by
  obtain ⟨a, c, cs', h1, h2, h3, rfl, h5⟩ := h
  rw [pel_w hT x] at h1
  obtain ⟨l', rfl, u1, m1, rfl, e1, e2⟩ := h1
  cases h2
  have e1 : u1 = .it .i64 x.1 := e1
  subst e1
  obtain ⟨es, rfl, k⟩ := RcE_elW hT h5
  exact ⟨(x.1, m1) :: es, rfl, .cons ⟨rfl, e2⟩ k⟩
theorem RcE_ofW {F : Nat → Prop} {H : AH} {T2 : Ty} (hT : 0 < T2.size) {l : List (Int × T2.den)} {es : List EB} (h : Al (ElB F H T2) l es) : RcE F H (T2.size + 1) ((KT T2).pl l) (flB es) := by
 induction h with
 | nil => rfl
 | cons h1 _ ih =>
  rename_i x e l m _
  obtain ⟨k1, k2⟩ := h1
  refine ⟨.ag (.it .i64 x.1 :: e.2), .it .i64 x.1 :: e.2, flB m, ?_, rfl, ?_, by rw [← k1]; rfl, ih⟩
  ·rw [pel_w hT x]
   exact ⟨_, rfl, _, _, rfl, rfl, k2⟩
  ·rw [List.length_cons, RcL_len2 k2, pcl_len]
theorem Al_elen {F : Nat → Prop} {H : AH} {T2 : Ty} {l : List (Int × T2.den)} {es : List EB} (h : Al (ElB F H T2) l es) : ∀ e ∈ es, e.2.length = T2.size := by
 induction h with
 | nil => intro e he; cases he
 | cons h1 _ ih =>
  intro e he
  rcases List.mem_cons.1 he with rfl | he
  ·rw [RcL_len2 h1.2, pcl_len]
  ·exact ih e he
theorem flB_len {k : Nat} : ∀ {es : List EB}, (∀ e ∈ es, e.2.length = k) → (flB es).length = es.length * (k + 1)
 | [], _ => by simp [flB]
 | e :: r, h => by
  have h1 := h e List.mem_cons_self
  have h2 := flB_len (es := r) fun x hx => h x (List.mem_cons_of_mem _ hx)
  simp only [flB, List.length_cons, List.length_append, h1, h2, Nat.succ_mul]
  omega
theorem flB_mem : ∀ {es : List EB} {e : EB} {v : AV}, e ∈ es → v ∈ e.2 → v ∈ flB es
 | e :: r, x, v, h, hv => by
  simp only [flB, List.mem_cons, List.mem_append]
  rcases List.mem_cons.1 h with rfl | h
  ·exact .inr (.inl hv)
  ·exact .inr (.inr (flB_mem h hv))
theorem flB_of {p : AV → Prop} (hi : ∀ n, p (.it .i64 n)) : ∀ {es : List EB}, (∀ e ∈ es, ∀ v ∈ e.2, p v) → ∀ v ∈ flB es, p v
 | [], _, v, h => by cases h
 | e :: r, h, v, hv => by
  simp only [flB, List.mem_cons, List.mem_append] at hv
  rcases hv with rfl | hv | hv
  ·exact hi _
  ·exact h e List.mem_cons_self v hv
  ·exact flB_of hi (fun x hx => h x (List.mem_cons_of_mem _ hx)) v hv
def phiW (k : Nat) (j : Inj) (e : EB) : EW k := (e.1, ol k (AV.conL j e.2))
theorem flB_con {k : Nat} {j : Inj} : ∀ {es : List EB}, (∀ e ∈ es, e.2.length = k) → AV.scL (flB es) = true → AV.conL j (flB es) = (es.map (phiW k j)).flatMap encW
 | [], _, _ => rfl
 | e :: r, hl, h => by
  have hs : AV.scL (e.2 ++ flB r) = true := by
   simp only [AV.scL, flB, List.all_cons, Bool.and_eq_true] at h ⊢
   exact h.2
  have h1 : AV.scL e.2 = true := by
   simp only [AV.scL, List.all_append, Bool.and_eq_true] at hs ⊢
   exact hs.1
  have h2 : AV.scL (flB r) = true := by
   simp only [AV.scL, List.all_append, Bool.and_eq_true] at hs ⊢
   exact hs.2
  have ho : (ol k (AV.conL j e.2)).1 = AV.conL j e.2 := ol_val ⟨by rw [conL_length]; exact hl e List.mem_cons_self, fun v hv => conL_one h1 v hv⟩
  have ih := flB_con (j := j) (fun x hx => hl x (List.mem_cons_of_mem _ hx)) h2
  show AV.conL j (.it .i64 e.1 :: (e.2 ++ flB r)) = encW (phiW k j e) ++ (r.map (phiW k j)).flatMap encW
  rw [← ih]
  simp only [AV.conL, conL_append, encW, phiW, ho, AV.con, List.cons_append]
theorem flatW_get {k : Nat} : ∀ (l : List (EW k)) (t : Nat), t < l.length * (k + 1) → (l.flatMap encW)[t]? = some ((encW (l.getD (t / (k + 1)) default))[t % (k + 1)]!)
 | [], t, h => by simp at h
 | x :: r, t, h => by
  rw [List.flatMap_cons]
  by_cases ht : t < k + 1
  ·rw [Nat.div_eq_of_lt ht, Nat.mod_eq_of_lt ht, List.getD_cons_zero, List.getElem?_append_left (by rw [encW_len]; exact ht), List.getElem?_eq_getElem (by rw [encW_len]; exact ht)]
   rw [getElem!_pos _ t (by rw [encW_len]; exact ht)]
  ·have h0 : 0 < k + 1 := Nat.succ_pos k
   have hle : k + 1 ≤ t := Nat.le_of_not_lt ht
   have h1 : t / (k + 1) = (t - (k + 1)) / (k + 1) + 1 := by rw [Nat.div_eq_sub_div h0 hle]
   have h2 : t % (k + 1) = (t - (k + 1)) % (k + 1) := Nat.mod_eq_sub_mod hle
   have hlt : t - (k + 1) < r.length * (k + 1) := by
    rw [List.length_cons, Nat.succ_mul] at h
    omega
   have ih := flatW_get r (t - (k + 1)) hlt
   rw [List.getElem?_append_right (by rw [encW_len]; exact hle), encW_len, ih, h1, h2, List.getD_cons_succ]
theorem arr_getW {k : Nat} (d : Array (EW k)) (i : Nat) : d[i]! = d.toList.getD i default := by
 rw [Array.getElem!_eq_getD, Array.getD_eq_getD_getElem?, List.getD_eq_getElem?_getD, Array.getElem?_toList]
theorem flatW_at {k : Nat} (d : Array (EW k)) {t : Nat} (h : t < d.size * (k + 1)) : (d.toList.flatMap encW)[t]? = some (Go.Sort.flatK encW (k + 1) d)[t]! := by
 rw [Go.Sort.get_flatK encW (k + 1) d t h, arr_getW, flatW_get _ _ (by simpa using h)]
theorem holds_ofW {k : Nat} {w : World} {b : Nat} {cs : Array Value} {t : TypeId} {fr : Nat × Nat} (g1 : w.heap[b]? = some (.cells cs t fr)) (g7 : fr.1 = fr.2 ∨ cs.size ≤ fr.1) {d : Array (EW k)}
  (h : ∀ (i : Nat) v, (d.toList.flatMap encW)[i]? = some v → cs[i]? = some v) : Go.Sort.HoldsK encW (k + 1) w b 0 d := by
 intro i hi
 rw [Go.Sort.size_flatK] at hi
 have := h i _ (flatW_at d hi)
 have hlt := (Array.getElem?_eq_some_iff.1 this).1
 refine ⟨?_, ?_⟩
 ·rw [Nat.zero_add]
  simp only [World.cell?, g1]
  exact this
 ·rw [Nat.zero_add]
  simp [World.frozen?, g1]
  intro h3
  omega
theorem putRowW_at {k : Nat} {w : World} {b : Nat} {cs : Array Value} {t : TypeId} {fr : Nat × Nat} (g1 : w.heap[b]? = some (.cells cs t fr)) (n : Nat) (d : Array (EW k)) :
  (Go.Sort.putRowK encW (k + 1) (Go.Sort.ahead w n) b 0 d).heap[b]? = some (.cells (Go.Sort.putCells id 0 (Go.Sort.flatK encW (k + 1) d) cs) t fr) := by
 simp [Go.Sort.putRowK, Go.Sort.putRow, Go.Sort.mapBlock, Array.getElem?_modify, Go.Sort.ahead, g1, Go.Sort.onCells]
theorem putRowW_other {k : Nat} {w : World} {b b' : Nat} (h : b' ≠ b) (n : Nat) (d : Array (EW k)) : (Go.Sort.putRowK encW (k + 1) (Go.Sort.ahead w n) b 0 d).heap[b']? = w.heap[b']? := by
 simp [Go.Sort.putRowK, Go.Sort.putRow, Go.Sort.mapBlock, Array.getElem?_modify, Go.Sort.ahead, Ne.symm h]
theorem below_growW (w : World) (os : Array Obj) : Below w.heap.size w (Go.Sort.grow w os) :=
 ⟨rfl, rfl, rfl, by simp [Go.Sort.grow], fun k hk => Go.Sort.heap_grow_old w os hk⟩
end Go.AX
end
section
namespace Go.AX
open Go Go.RowKit
abbrev sgSort (g : FuncId) (T2 : Ty) : Sig := ⟨⟨[(0, .gr 0), (1, .fn g [] [])], [.gs true (.pr (.int .i64) T2)]⟩, [⟨[], [.gs true (.pr (.int .i64) T2)]⟩]⟩
def sortG (T2 : Ty) (l : List (Int × T2.den)) : Option (List (Int × T2.den)) := bif Nat.blt 0 l.length && (Nat.ble l.length 1000000 && decide (KDis l)) then some (sortK l) else none
theorem ext_whole {k : Nat} (d : Array (EW k)) {n : Nat} (h : d.size = n) : (d.extract 0 n).toList = d.toList := by
 subst h; simp
theorem sort_ok {P : Program} {f g : FuncId} {T2 : Ty} (hT : 0 < T2.size) (hb : bdB P f = true) (hc : SortW T2.size P f g) : FnOK P f (sgSort g T2) (sortG T2) := by
 refine ⟨Bd_of hb, fun (l : List (Int × T2.den)) (y : List (Int × T2.den)) hy => ?_⟩
 obtain ⟨h1, h2⟩ := bif_some hy
 cases h2
 simp only [Bool.and_eq_true] at h1
 obtain ⟨h0, hsz, hd⟩ := h1
 have h0 : 0 < l.length := by rw [Nat.blt_eq] at h0; exact h0
 have hsz : l.length ≤ 1000000 := Nat.le_of_ble_eq_true hsz
 have hd : KDis l := of_decide_eq_true hd
 have hs2 : (KT T2).size = T2.size + 1 := by simp only [Ty.size]; omega
 show PCall P f [.gs true (KT T2).size ((KT T2).pl l)] [.gr 0, .fn (.func g) [] []] [.gs true (KT T2).size ((KT T2).pl (sortK l))] (.tu []) [0]
 rw [hs2]
 intro L H avs hR ha
 obtain ⟨a1, m1, rfl, ⟨hn0, rfl, hcl⟩, a2, m2, rfl, ⟨p', c', rfl, rfl, rfl⟩, rfl⟩ := ha
 obtain ⟨hG, _⟩ := hR.bk 0 _ rfl
 rcases hG with ⟨_, he⟩ | ⟨X, hF, hX⟩
 ·have := congrArg List.length (he rfl)
  simp at this
  rw [this] at h0
  simp at h0
 obtain ⟨cs, sp, hXn, hg, hE, hA⟩ := hX
 obtain ⟨es, rfl, hAl⟩ := RcE_elW hT hE
 have hel := Al_elen hAl
 have hel2 : ∀ e ∈ sortK es, e.2.length = T2.size := fun e he => hel e ((sortK_perm es).mem_iff.1 he)
 have hlen := Al_len hAl
 have hdis : KDis es := (Al_keys (p := fun a b => a ≠ b) (fun x y h => h.1) hAl).1 hd
 obtain ⟨l', hp1, hAl'⟩ := Al_perm (sortK_perm es).symm hAl
 have hl' : l' = sortK l := kuniq ((Al_keys (p := fun a b => a ≤ b) (fun x y h => h.1) hAl').2 (sortK_asc es)) (sortK_asc l) ((hp1.pairwise_iff (fun h => Ne.symm h)).1 hd) (hp1.symm.trans (sortK_perm l).symm)
 subst hl'
 have hls : (sortK l).length = l.length := (sortK_perm l).length_eq
 have hes : (sortK es).length = es.length := (sortK_perm es).length_eq
 have hbX : (L.m 0).bk = some X := by rcases hA with ⟨e, _⟩ | ⟨c, _, e, _⟩ <;> rw [e] <;> rfl
 have st : Stay L.F H L.F (H.up X (flB (sortK es) ++ sp)) := ⟨Nat.le_refl _, fun _ h => h, fun Y hY => up_other (fun e => hF (e ▸ hY))⟩
 have did := did_up hR (b := 0) (X := X) (p' := .gs true (T2.size + 1) ((KT T2).pl (sortK l))) (cs' := flB (sortK es) ++ sp) (r := some (.tu [], H.up X (flB (sortK es) ++ sp))) rfl rfl rfl hbX hF rfl
  ⟨.inr ⟨X, hF, flB (sortK es), sp, hXn, by simp [AH.up], RcE.mono st (T2.size + 1) _ (RcE_ofW hT hAl'), by
   rw [List.length_map] at hA ⊢
   rw [hls]; exact hA⟩, hcl⟩
 obtain ⟨_, hev, hhr, hrp, hun⟩ := did
 refine ⟨.tu [], H.up X (flB (sortK es) ++ sp), L, fun base D j w S hok => ?_, hev, hhr, hrp, hun⟩
 have hDX : D X := by
  have := hok.1
  rcases hA with ⟨e, _⟩ | ⟨c, _, e, _⟩ <;> rw [e] at this <;> exact this
 obtain ⟨⟨c0, t, fr, g1, g2, g5, g6, g7⟩, g3, g4, g8, g9, g10⟩ := S.rw X _ hDX hg
 have hsc : AV.scL (flB es) = true := by
  rw [AV.scL, List.all_eq_true] at g4 ⊢
  exact fun v hv => g4 v (List.mem_append_left _ hv)
 have hsc' : AV.scL (flB (sortK es)) = true := by
  rw [AV.scL, List.all_eq_true] at hsc ⊢
  exact flB_of (fun n => rfl) (fun e he v hv => hsc _ (flB_mem ((sortK_perm es).mem_iff.1 he) hv))
 have hlc := g6
 rw [conL_length, List.length_append, flB_len (by assumption)] at hlc
 have hblk : (j X).k < w.heap.size := (Array.getElem?_eq_some_iff.1 g1).1
 have hcon : ∃ cap, (L.m 0).con j = .slice (some ⟨(j X).k, 0, none⟩) es.length cap := by
  rw [List.length_map, hlen] at hA
  rcases hA with ⟨e, _⟩ | ⟨c, _, e, _⟩
  ·rw [e]; exact ⟨((j X).e - 0) / (T2.size + 1), by simp only [AV.con, ite_self]⟩
  ·rw [e]; exact ⟨c, by simp only [AV.con, at_own g9 g10]⟩
 obtain ⟨cap, hcon⟩ := hcon
 generalize hdd : (es.map (phiW T2.size j)).toArray = d
 have hdl : d.toList = es.map (phiW T2.size j) := by rw [← hdd]
 have hds : d.size = es.length := by rw [← hdd]; simp
 have hH : Go.Sort.HoldsK encW (T2.size + 1) w (j X).k 0 d := holds_ofW g1 g7 fun i v hv => g2 i v (by
  rw [hdl, ← flB_con (by assumption) hsc] at hv
  rw [conL_append, List.getElem?_append_left (List.getElem?_eq_some_iff.1 hv).1]
  exact hv)
 have real := hc w (j X).k cap d hH hblk (by omega)
 have hargs : (AV.conL j [L.m 0, .fn (.func g) [] []]).toArray = #[.slice (some ⟨(j X).k, 0, none⟩) d.size cap, .func (.func g) #[] #[]] := by
  simp only [AV.conL, hcon, AV.con, hds]
 rw [hargs]
 refine real.mono ?_
 rintro e w' ⟨rfl, d', n, os, hp, hsrt, rfl⟩
 have hds' : d'.size = es.length := hp.1.trans hds
 have hpl : d'.toList.Perm d.toList := by
  have := hp.2.2
  rwa [ext_whole d' hp.1, ext_whole d rfl] at this
 obtain ⟨es2, q1, q2⟩ := Al_perm (m := d.toList) (m' := d'.toList) hpl.symm (by rw [hdl]; exact Al_map (phiW T2.size j) es)
 have q3 := Al_of_map q2
 have q4 : es2 = sortK es := by
  refine kuniq ?_ (sortK_asc es) ((q1.pairwise_iff (fun h => Ne.symm h)).1 hdis) (q1.symm.trans (sortK_perm es).symm)
  have hl2 : es2.length = d'.size := by
   have := congrArg List.length q3
   simpa using this.symm
  refine List.pairwise_iff_getElem.2 fun i k hi hk hik => ?_
  have := hsrt i k (Nat.zero_le _) hik (by rw [hds, ← hds', ← hl2]; exact hk)
  rw [ltW, arr_getW, arr_getW, q3] at this
  have this := of_decide_eq_false this
  have e1 : ((es2.map (phiW T2.size j)).getD i default).1 = es2[i].1 := by simp [List.getD_eq_getElem?_getD, hi, phiW]
  have e2 : ((es2.map (phiW T2.size j)).getD k default).1 = es2[k].1 := by simp [List.getD_eq_getElem?_getD, hk, phiW]
  rw [e1, e2] at this
  omega
 subst q4
 have hF' : (Go.Sort.flatK encW (T2.size + 1) d').size = es.length * (T2.size + 1) := by rw [Go.Sort.size_flatK, hds']
 have up := S.up hDX hg (l' := flB (sortK es) ++ sp) (by
   rw [okL_iff] at g3 ⊢
   intro v hv
   rcases List.mem_append.1 hv with hv | hv
   ·exact flB_of (p := fun v => v.ok D) (fun n => by simp only [AV.ok]) (fun e he v hv => g3 _ (List.mem_append_left _ (flB_mem ((sortK_perm es).mem_iff.1 he) hv))) v hv
   ·exact g3 v (List.mem_append_right _ hv)) (by
   rw [AV.scL, List.all_eq_true] at g4 hsc' ⊢
   intro v hv
   rcases List.mem_append.1 hv with hv | hv
   ·exact hsc' v hv
   ·exact g4 v (List.mem_append_right _ hv)) (w' := Go.Sort.putRowK encW (T2.size + 1) (Go.Sort.ahead w n) (j X).k 0 d') g1 (putRowW_at g1 n d') (by simp [Go.Sort.putCells]) (by rw [List.length_append, flB_len (by assumption), hes]; omega) (fun i v hv => by
   have hilt := (List.getElem?_eq_some_iff.1 hv).1
   rw [conL_length, List.length_append, flB_len (by assumption), hes] at hilt
   have hci : i < c0.size := by omega
   simp only [Go.Sort.putCells, Array.getElem?_mapIdx, hF', Nat.zero_le, true_and, Nat.zero_add, Nat.sub_zero, id]
   rw [Array.getElem?_eq_getElem hci, Option.map_some]
   by_cases hi : i < es.length * (T2.size + 1)
   ·rw [if_pos hi]
    rw [conL_append, List.getElem?_append_left (by rw [conL_length, flB_len (by assumption), hes]; exact hi), flB_con (by assumption) hsc', ← q3, flatW_at d' (by rw [hds']; exact hi)] at hv
    exact hv
   ·rw [if_neg hi, ← Array.getElem?_eq_getElem hci]
    refine g2 i v ?_
    rw [conL_append, List.getElem?_append_right (by rw [conL_length, flB_len (by assumption)]; omega), conL_length, flB_len (by assumption)]
    rw [conL_append, List.getElem?_append_right (by rw [conL_length, flB_len (by assumption), hes]; omega), conL_length, flB_len (by assumption), hes] at hv
    exact hv) (fun k hk => putRowW_other hk n d') (by simp [Go.Sort.putRowK, Go.Sort.putRow, Go.Sort.mapBlock, Go.Sort.ahead]) rfl rfl rfl
 exact ⟨j, rfl, by simp [AEnd.ok, AV.ok, AV.okL], up.trans (Post.below up.sim (below_growW _ os)) S.lt⟩
def orG {α β : Type} (g1 g2 : α → Option β) : α → Option β := fun x => match g1 x with | some y => some y | none => g2 x
theorem FnOK_or {P : Program} {f : FuncId} {sg : Sig} {g1 g2 : Val sg.a.den → Option (RV sg.r)} (h1 : FnOK P f sg g1) (h2 : FnOK P f sg g2) : FnOK P f sg (orG g1 g2) := by
 refine ⟨h1.1, fun x y hy => ?_⟩
 unfold orG at hy
 split at hy
 ·rename_i z hz
  have hy := Option.some.inj hy
  subst hy
  exact h1.2 x _ hz
 ·exact h2.2 x y hy
end Go.AX
end
section
namespace Go.Proofs
open Go.Shelf Go.RowKit Go.Lib Go.Sort
def Tryz.sortNd_ren : Go.Shelf.Ren := ⟨fun | 6 => 64 | 15 => 95 | 14 => 94 | 28 => 118 | 29 => 119 | 20 => 110 | 21 => 111 | 22 => 112 | 23 => 113 | 24 => 114 | 25 => 115 | 26 => 116 | 27 => 117 | 46 => 124 | 47 => 125 | 48 => 126 | 49 => 127 | 50 => 128 | 57 => 129 | n => n, fun | 22 => 25 | 24 => 64 | 25 => 89 | 3 => 3 | 39 => 118 | 0 => 0 | 53 => 46 | 55 => 141 | 4 => 4 | 46 => 133 | 45 => 132 | 50 => 137 | 5 => 5 | 9 => 9 | 66 => 143 | 70 => 147 | 76 => 149 | 77 => 129 | n => n, fun | n => n⟩
theorem Tryz.sortNd : Go.Proofs.SlLaysF0.n6 Tryz.prog Tryz.sortNd_ren := {
 mixed := by kernel_rfl
 f6 := ⟨Tryz.f64.name, by decide, Tryz.func64.trans (congrArg some (by kernel_rfl))⟩
 f14 := ⟨Tryz.f94.name, by decide, Tryz.func94.trans (congrArg some (by kernel_rfl))⟩
 f15 := Tryz.func95.trans (congrArg some (by kernel_rfl))
 f20 := ⟨Tryz.f110.name, by decide, Tryz.func110.trans (congrArg some (by kernel_rfl))⟩
 f21 := ⟨Tryz.f111.name, by decide, Tryz.func111.trans (congrArg some (by kernel_rfl))⟩
 f22 := ⟨Tryz.f112.name, by decide, Tryz.func112.trans (congrArg some (by kernel_rfl))⟩
 f23 := ⟨Tryz.f113.name, by decide, Tryz.func113.trans (congrArg some (by kernel_rfl))⟩
 f24 := ⟨Tryz.f114.name, by decide, Tryz.func114.trans (congrArg some (by kernel_rfl))⟩
 f25 := ⟨Tryz.f115.name, by decide, Tryz.func115.trans (congrArg some (by kernel_rfl))⟩
 f26 := ⟨Tryz.f116.name, by decide, Tryz.func116.trans (congrArg some (by kernel_rfl))⟩
 f27 := ⟨Tryz.f117.name, by decide, Tryz.func117.trans (congrArg some (by kernel_rfl))⟩
 f28 := Tryz.func118.trans (congrArg some (by kernel_rfl))
 f29 := Tryz.func119.trans (congrArg some (by kernel_rfl))
 f46 := ⟨Tryz.f124.name, by decide, Tryz.func124.trans (congrArg some (by kernel_rfl))⟩
 f47 := Tryz.func125.trans (congrArg some (by kernel_rfl))
 f48 := Tryz.func126.trans (congrArg some (by kernel_rfl))
 f49 := ⟨Tryz.f127.name, by decide, Tryz.func127.trans (congrArg some (by kernel_rfl))⟩
 f50 := ⟨Tryz.f128.name, by decide, Tryz.func128.trans (congrArg some (by kernel_rfl))⟩
 f57 := ⟨Tryz.f129.name, by decide, Tryz.func129.trans (congrArg some (by kernel_rfl))⟩
 t0 := Tryz.underlying0
 a0 := Tryz.isAgg0
 z0 := Tryz.sizeOf0
 v0 := Tryz.zeroValue0
 t3 := Tryz.underlying3
 a3 := Tryz.isAgg3
 z3 := Tryz.sizeOf3
 v3 := Tryz.zeroValue3
 t4 := Tryz.underlying4
 a4 := Tryz.isAgg4
 z4 := Tryz.sizeOf4
 v4 := Tryz.zeroValue4
 t5 := Tryz.underlying5
 a5 := Tryz.isAgg5
 z5 := Tryz.sizeOf5
 v5 := Tryz.zeroValue5
 t9 := Tryz.underlying9
 a9 := Tryz.isAgg9
 z9 := Tryz.sizeOf9
 v9 := Tryz.zeroValue9
 t22 := Tryz.underlying25
 a22 := Tryz.isAgg25
 z22 := Tryz.sizeOf25
 v22 := Tryz.zeroValue25
 t25 := Tryz.underlying89
 a25 := Tryz.isAgg89
 z25 := Tryz.sizeOf89
 v25 := Tryz.zeroValue89
 t39 := Tryz.underlying118
 a39 := Tryz.isAgg118
 z39 := Tryz.sizeOf118
 v39 := Tryz.zeroValue118
 t45 := Tryz.underlying132
 a45 := Tryz.isAgg132
 z45 := Tryz.sizeOf132
 v45 := Tryz.zeroValue132
 t46 := Tryz.underlying133
 a46 := Tryz.isAgg133
 z46 := Tryz.sizeOf133
 v46 := Tryz.zeroValue133
 t50 := Tryz.underlying137
 a50 := Tryz.isAgg137
 z50 := Tryz.sizeOf137
 v50 := Tryz.zeroValue137
 t53 := Tryz.underlying46
 a53 := Tryz.isAgg46
 z53 := Tryz.sizeOf46
 v53 := Tryz.zeroValue46
 t55 := Tryz.underlying141
 a55 := Tryz.isAgg141
 z55 := Tryz.sizeOf141
 v55 := Tryz.zeroValue141
 t66 := Tryz.underlying143
 a66 := Tryz.isAgg143
 z66 := Tryz.sizeOf143
 v66 := Tryz.zeroValue143
 t70 := Tryz.underlying147
 a70 := Tryz.isAgg147
 z70 := Tryz.sizeOf147
 v70 := Tryz.zeroValue147
 t76 := Tryz.underlying149
 a76 := Tryz.isAgg149
 z76 := Tryz.sizeOf149
 v76 := Tryz.zeroValue149
 t77 := Tryz.underlying129
 a77 := Tryz.isAgg129
 z77 := Tryz.sizeOf129
 v77 := Tryz.zeroValue129 }
def Tryz.cmpIntL_ren : Go.Shelf.Ren := ⟨fun | 5 => 66 | 7 => 96 | n => n, fun | 22 => 3 | 3 => 3 | 4 => 4 | n => n, fun | n => n⟩
theorem Tryz.cmpIntL : Go.Proofs.SlLaysC2.n5 Tryz.prog Tryz.cmpIntL_ren := {
 mixed := by kernel_rfl
 f5 := ⟨Tryz.f66.name, by decide, Tryz.func66.trans (congrArg some (by kernel_rfl))⟩
 f7 := ⟨Tryz.f96.name, by decide, Tryz.func96.trans (congrArg some (by kernel_rfl))⟩
 t3 := Tryz.underlying3
 a3 := Tryz.isAgg3
 z3 := Tryz.sizeOf3
 v3 := Tryz.zeroValue3
 t4 := Tryz.underlying4
 a4 := Tryz.isAgg4
 z4 := Tryz.sizeOf4
 v4 := Tryz.zeroValue4
 t22 := Tryz.underlying3
 a22 := Tryz.isAgg3
 z22 := Tryz.sizeOf3
 v22 := Tryz.zeroValue3 }
set_option maxHeartbeats 1000000 in
theorem Tryz.closure65 (a b : Int) (u1 u2 u3 u4 u5 v1 v2 v3 v4 v5 : Value) (W : World) : Calls Tryz.prog 65 #[.agg #[.int .i64 a, u1, u2, u3, u4, u5], .agg #[.int .i64 b, v1, v2, v3, v4, v5]] W fun e w' => e = .returned (.int .i64 (Lib.compareInt a b)) ∧ ∃ q os', w' = grow (W.drewN q) os' := by
 have hcon := fun W' => AnyG.cmp_Compare_int Tryz.cmpIntL a b W'
 change ∀ W', Calls Tryz.prog 66 _ _ _ at hcon
 generalize Lib.compareInt a b = r at hcon ⊢
 go_enter Tryz.func65, Tryz.ntmps65
 go_wp2_with (go_at_call 66; refine (hcon _).mono ?_; rintro e w' ⟨rfl, rfl⟩)
 go_ret
 exact ⟨rfl, 0, _, by rw [alloc_eq_grow, alloc_eq_grow, grow_grow]; rfl⟩
theorem five_of {l : List Value} (h : l.length = 5) : ∃ a b c d e, l = [a, b, c, d, e] := by
 match l, h with
 | [a, b, c, d, e], _ => exact ⟨a, b, c, d, e, rfl⟩
open Go.AX (encW cfW swoW) in
theorem sortW_Node : Go.AX.SortW 5 Tryz.prog 64 65 := by
 intro w blk cap d hH hblk hsz
 have eg : ∀ args w, (callFunc 65 args).run Tryz.prog w = .ok (.enter 65 args) w := enters_of Tryz.func65 (by kernel_rfl) rfl
 have hcon := AnyQ.slices_SortFunc Tryz.sortNd 6 Tryz.isAgg64 Tryz.sizeOf64 encW (fun x => Go.AX.encW_len x) (fun x v hv => by
  simp only [encW, List.mem_cons] at hv
  rcases hv with rfl | hv
  ·rfl
  ·exact x.2.2.2 v hv) cfW swoW 65 #[] blk 0 cap d w eg (fun _ _ _ _ x y => by
   obtain ⟨u1, u2, u3, u4, u5, hu⟩ := five_of x.2.2.1
   obtain ⟨v1, v2, v3, v4, v5, hv⟩ := five_of y.2.2.1
   have := Tryz.closure65 x.1 y.1 u1 u2 u3 u4 u5 v1 v2 v3 v4 v5
   simp only [encW, hu, hv, cfW] at this ⊢
   exact this _) hH hblk hsz
 exact hcon
end Go.Proofs
end
