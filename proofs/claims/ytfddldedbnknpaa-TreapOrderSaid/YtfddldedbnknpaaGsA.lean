/- Parts: StD StE. -/
import Derived.Test.YtfddldedbnknpaaGeB
import Derived.Test.YtfddldedbnknpaaGxA
import Derived.Sort.Row
import Derived.Sort.Grow
import Derived.Shelf.Sort.Plain
import Derived.Shelf.Slices.In.SortNone
import Derived.Ground.NamesProg
import Derived.Test.YtfddldedbnknpaaProg
section
set_option linter.unusedSimpArgs false
set_option linter.unusedVariables false
set_option maxRecDepth 100000
namespace Go.AX
open Go Go.RowKit
def insI (x : Int) : List Int → List Int
  | [] => [x]
  | y :: l => if x ≤ y then x :: y :: l else y :: insI x l
def sortI : List Int → List Int
  | [] => []
  | x :: l => insI x (sortI l)
theorem insI_perm (x : Int) : ∀ l : List Int, (insI x l).Perm (x :: l)
  | [] => .refl _
  | y :: l => by
    rw [insI]
    split
    · exact .refl _
    · exact ((insI_perm x l).cons y).trans (.swap x y l)
theorem sortI_perm : ∀ l : List Int, (sortI l).Perm l
  | [] => .refl _
  | x :: l => (insI_perm x _).trans ((sortI_perm l).cons x)
abbrev IAsc (l : List Int) : Prop := l.Pairwise fun x y => x ≤ y
theorem insI_asc (x : Int) : ∀ {l : List Int}, IAsc l → IAsc (insI x l)
  | [], _ => by simp [insI]
  | y :: l, h => by
    have h := List.pairwise_cons.1 h
    rw [insI]
    split
    · rename_i hx
      refine List.pairwise_cons.2 ⟨fun z hz => ?_, List.pairwise_cons.2 h⟩
      rcases List.mem_cons.1 hz with rfl | hz
      · exact hx
      · have := h.1 z hz; omega
    · rename_i hx
      refine List.pairwise_cons.2 ⟨fun z hz => ?_, insI_asc x h.2⟩
      rcases List.mem_cons.1 ((insI_perm x l).mem_iff.1 hz) with rfl | hz
      · omega
      · exact h.1 z hz
theorem sortI_asc : ∀ l : List Int, IAsc (sortI l)
  | [] => .nil
  | x :: l => insI_asc x (sortI_asc l)
theorem merge_sortI (l : List Int) : (l.mergeSort fun x y => decide (x ≤ y)) = sortI l := by
  refine List.Perm.eq_of_pairwise (le := fun x y : Int => x ≤ y) (fun a b _ _ h1 h2 => by omega) ?_ (sortI_asc l) ((List.mergeSort_perm ..).trans (sortI_perm l).symm)
  refine (List.pairwise_mergeSort (le := fun x y : Int => decide (x ≤ y)) ?_ ?_ l).imp fun h => of_decide_eq_true h
  · intro a b c h1 h2
    exact decide_eq_true (Int.le_trans (of_decide_eq_true h1) (of_decide_eq_true h2))
  · intro a b
    rcases Int.le_total a b with h | h
    · simp [h]
    · simp [h]
def SortI (P : Program) (f : FuncId) : Prop :=
  (∀ (w : World) (blk cap : Nat) (zs : List Int), Go.Sort.Holds (Value.int .i64) w blk 0 zs.toArray → blk < w.heap.size → zs.length < 4611686018427387904 →
    Calls P f #[.slice (some ⟨blk, 0, none⟩) zs.length cap] w fun e w' => e = .returned (.tuple #[]) ∧ ∃ n os, w' = Go.Sort.grow (Go.Sort.putRow (Value.int .i64) (Go.Sort.ahead w n) blk 0 (zs.mergeSort fun x y => decide (x ≤ y)).toArray) os) ∧
  ∀ (w : World) (p : Option Addr) (cap : Nat), Calls P f #[.slice p 0 cap] w fun e w' => e = .returned (.tuple #[]) ∧ w' = w
abbrev sgSortI : Sig := ⟨⟨[(0, .gr 0)], [.gs true (.int .i64)]⟩, [⟨[], [.gs true (.int .i64)]⟩]⟩
def sortIG (l : List Int) : Option (List Int) := bif Nat.ble l.length 1000000 then some (sortI l) else none
theorem RcE_i64 {F : Nat → Prop} {H : AH} : ∀ {l : List Int} {cs : List AV}, RcE F H 1 ((Ty.int .i64).pl l) cs → cs = l.map (AV.it .i64)
  | [], cs, h => h
  | x :: r, cs, h => by
    obtain ⟨a, c, cs', h1, h2, h3, rfl, h5⟩ := h
    have h1 : a = .it .i64 x := h1
    subst h1
    cases h2
    rw [RcE_i64 h5]; rfl
theorem RcE_i64' {F : Nat → Prop} {H : AH} : ∀ {l : List Int}, RcE F H 1 ((Ty.int .i64).pl l) (l.map (AV.it .i64))
  | [] => rfl
  | x :: r => ⟨.it .i64 x, [.it .i64 x], r.map (AV.it .i64), rfl, rfl, rfl, rfl, RcE_i64'⟩
theorem i64_con {j : Inj} : ∀ {l : List Int}, AV.conL j (l.map (AV.it .i64)) = l.map (Value.int .i64)
  | [] => rfl
  | x :: r => by simp only [List.map_cons, AV.conL, AV.con, i64_con (l := r)]
theorem i64_get (l : List Int) (i : Nat) (h : i < l.length) : (l.map (Value.int .i64))[i]? = some (Value.int .i64 l.toArray[i]!) := by
  rw [List.getElem?_map, List.getElem?_eq_getElem h, Option.map_some]
  simp [h]
theorem i64_ok {D : Nat → Prop} {l : List Int} : AV.okL D (l.map (AV.it .i64)) := okL_iff.2 fun v hv => by
  obtain ⟨x, _, rfl⟩ := List.mem_map.1 hv
  simp only [AV.ok]
theorem i64_sc {l : List Int} : AV.scL (l.map (AV.it .i64)) = true := by
  rw [AV.scL, List.all_eq_true]
  intro v hv
  obtain ⟨x, _, rfl⟩ := List.mem_map.1 hv
  rfl
theorem below_growI (w : World) (os : Array Obj) : Below w.heap.size w (Go.Sort.grow w os) :=
  ⟨rfl, rfl, rfl, by simp [Go.Sort.grow], fun k hk => Go.Sort.heap_grow_old w os hk⟩
theorem sortInt_ok {P : Program} {f : FuncId} (hb : bdB P f = true) (hc : SortI P f) : FnOK P f sgSortI sortIG := by
  refine ⟨Bd_of hb, fun (l : List Int) (y : List Int) hy => ?_⟩
  obtain ⟨hsz, h2⟩ := bif_some hy
  cases h2
  have hsz : l.length ≤ 1000000 := Nat.le_of_ble_eq_true hsz
  show PCall P f [.gs true 1 ((Ty.int .i64).pl l)] [.gr 0] [.gs true 1 ((Ty.int .i64).pl (sortI l))] (.tu []) [0]
  intro L H avs hR ha
  obtain ⟨a1, m1, rfl, ⟨hn0, rfl, hcl⟩, rfl⟩ := ha
  obtain ⟨hG, _⟩ := hR.bk 0 _ rfl
  rcases hG with ⟨hRc, he⟩ | ⟨X, hF, hX⟩
  · have hl : l = [] := by
      have := congrArg List.length (he rfl)
      rw [List.length_map, List.length_nil] at this
      exact List.eq_nil_of_length_eq_zero this
    subst hl
    refine ⟨.tu [], H, L, fun base D j w S hok => ?_, Ev.refl, hR, ⟨[], rfl, rfl⟩, fun _ _ _ => rfl⟩
    have hcon : ∃ p cap, (L.m 0).con j = .slice p 0 cap := by
      obtain ⟨⟨cs, h1, _⟩, _⟩ := hRc
      replace h1 : Sl H 1 (L.m 0) 0 cs := h1
      generalize L.m 0 = a at h1
      generalize hn : 0 = n at h1
      cases h1 with
      | sn => exact ⟨none, 0, rfl⟩
      | sl _ _ _ _ _ => subst hn; exact ⟨_, _, rfl⟩
      | sg _ _ _ _ _ _ => subst hn; exact ⟨_, _, rfl⟩
    obtain ⟨p, cap, hcon⟩ := hcon
    have hargs : (AV.conL j [L.m 0]).toArray = #[.slice p 0 cap] := by simp only [AV.conL, hcon]
    rw [hargs]
    refine (hc.2 w p cap).mono ?_
    rintro e w' ⟨rfl, rfl⟩
    exact ⟨j, rfl, by simp [AEnd.ok, AV.ok, AV.okL], Post.refl S⟩
  obtain ⟨cs, sp, hXn, hg, hE, hA⟩ := hX
  obtain rfl := RcE_i64 hE
  have hls : (sortI l).length = l.length := (sortI_perm l).length_eq
  have hbX : (L.m 0).bk = some X := by rcases hA with ⟨e, _⟩ | ⟨c, _, e, _⟩ <;> rw [e] <;> rfl
  have did := did_up hR (b := 0) (X := X) (p' := .gs true 1 ((Ty.int .i64).pl (sortI l))) (cs' := (sortI l).map (AV.it .i64) ++ sp) (r := some (.tu [], H.up X ((sortI l).map (AV.it .i64) ++ sp))) rfl rfl rfl hbX hF rfl
    ⟨.inr ⟨X, hF, (sortI l).map (AV.it .i64), sp, hXn, by simp [AH.up], RcE_i64', by
      rw [List.length_map] at hA ⊢
      rw [hls]; exact hA⟩, hcl⟩
  obtain ⟨_, hev, hhr, hrp, hun⟩ := did
  refine ⟨.tu [], H.up X ((sortI l).map (AV.it .i64) ++ sp), L, fun base D j w S hok => ?_, hev, hhr, hrp, hun⟩
  have hDX : D X := by
    have := hok.1
    rcases hA with ⟨e, _⟩ | ⟨c, _, e, _⟩ <;> rw [e] at this <;> exact this
  obtain ⟨⟨c0, t, fr, g1, g2, g5, g6, g7⟩, g3, g4, g8, g9, g10⟩ := S.rw X _ hDX hg
  have hlc := g6
  rw [conL_length, List.length_append, List.length_map] at hlc
  have hblk : (j X).k < w.heap.size := (Array.getElem?_eq_some_iff.1 g1).1
  have hcon : ∃ cap, (L.m 0).con j = .slice (some ⟨(j X).k, 0, none⟩) l.length cap := by
    rw [List.length_map] at hA
    rcases hA with ⟨e, _⟩ | ⟨c, _, e, _⟩
    · rw [e]; exact ⟨((j X).e - 0) / 1, by simp only [AV.con, ite_self]⟩
    · rw [e]; exact ⟨c, by simp only [AV.con, at_own g9 g10]⟩
  obtain ⟨cap, hcon⟩ := hcon
  have hH : Go.Sort.Holds (Value.int .i64) w (j X).k 0 l.toArray := by
    intro i hi
    have hi : i < l.length := by simpa using hi
    have hcell := g2 i (Value.int .i64 l.toArray[i]!) (by
      rw [conL_append, List.getElem?_append_left (by rw [conL_length, List.length_map]; exact hi), i64_con]
      exact i64_get l i hi)
    have hlt := (Array.getElem?_eq_some_iff.1 hcell).1
    refine ⟨?_, ?_⟩
    · rw [Nat.zero_add]
      simp only [World.cell?, g1]
      exact hcell
    · rw [Nat.zero_add]
      simp [World.frozen?, g1]
      intro h3
      omega
  have real := hc.1 w (j X).k cap l hH hblk (by omega)
  have hargs : (AV.conL j [L.m 0]).toArray = #[.slice (some ⟨(j X).k, 0, none⟩) l.length cap] := by simp only [AV.conL, hcon]
  rw [hargs]
  refine real.mono ?_
  rintro e w' ⟨rfl, n, os, rfl⟩
  rw [merge_sortI]
  have up := S.up hDX hg (l' := (sortI l).map (AV.it .i64) ++ sp) (by
      rw [okL_iff] at g3 ⊢
      intro v hv
      rcases List.mem_append.1 hv with hv | hv
      · exact okL_iff.1 i64_ok v hv
      · exact g3 v (List.mem_append_right _ hv)) (by
      have h5 := i64_sc (l := sortI l)
      rw [AV.scL, List.all_eq_true] at g4 h5 ⊢
      intro v hv
      rcases List.mem_append.1 hv with hv | hv
      · exact h5 v hv
      · exact g4 v (List.mem_append_right _ hv)) (w' := Go.Sort.putRow (Value.int .i64) (Go.Sort.ahead w n) (j X).k 0 (sortI l).toArray) (t := t) (fr := fr) (cs' := Go.Sort.putCells (Value.int .i64) 0 (sortI l).toArray c0) g1
      (by simp [Go.Sort.putRow, Go.Sort.mapBlock, Array.getElem?_modify, Go.Sort.ahead, g1, Go.Sort.onCells]) (by simp [Go.Sort.putCells]) (by rw [List.length_append, List.length_map, hls]; omega) (fun i v hv => by
      have hilt := (List.getElem?_eq_some_iff.1 hv).1
      rw [conL_length, List.length_append, List.length_map, hls] at hilt
      have hci : i < c0.size := by omega
      have hsz' : (sortI l).toArray.size = l.length := by rw [List.size_toArray, hls]
      simp only [Go.Sort.putCells, Array.getElem?_mapIdx, hsz', Nat.zero_le, true_and, Nat.zero_add, Nat.sub_zero]
      rw [Array.getElem?_eq_getElem hci, Option.map_some]
      by_cases hi : i < l.length
      · rw [if_pos hi]
        rw [conL_append, List.getElem?_append_left (by rw [conL_length, List.length_map, hls]; exact hi), i64_con, i64_get (sortI l) i (by rw [hls]; exact hi)] at hv
        exact hv
      · rw [if_neg hi, ← Array.getElem?_eq_getElem hci]
        refine g2 i v ?_
        rw [conL_append, List.getElem?_append_right (by rw [conL_length, List.length_map]; omega), conL_length, List.length_map]
        rw [conL_append, List.getElem?_append_right (by rw [conL_length, List.length_map, hls]; omega), conL_length, List.length_map, hls] at hv
        exact hv) (fun k hk => by simp [Go.Sort.putRow, Go.Sort.mapBlock, Array.getElem?_modify, Go.Sort.ahead, Ne.symm hk]) (by simp [Go.Sort.putRow, Go.Sort.mapBlock, Go.Sort.ahead]) rfl rfl rfl
  exact ⟨j, rfl, by simp [AEnd.ok, AV.ok, AV.okL], up.trans (Post.below up.sim (below_growI _ os)) S.lt⟩
end Go.AX
end
section
set_option linter.unusedSimpArgs false
set_option linter.unusedVariables false
namespace Go.Proofs
open Go.Shelf
def Try.sortIntL_ren : Go.Shelf.Ren := ⟨fun | 189 => 39 | 125 => 50 | 257 => 49 | 128 => 60 | 129 => 61 | 294 => 51 | 295 => 52 | 296 => 53 | 297 => 54 | 298 => 55 | 299 => 56 | 216 => 57 | 300 => 58 | 301 => 59 | 328 => 62 | 329 => 63 | 330 => 64 | 331 => 65 | 332 => 66 | 215 => 67 | 343 => 68 | n => n, fun | 28 => 38 | 3 => 3 | 46 => 83 | 0 => 0 | 51 => 25 | 53 => 95 | 4 => 4 | 183 => 86 | 182 => 85 | 131 => 91 | 5 => 5 | 9 => 9 | 218 => 96 | 222 => 100 | 228 => 102 | 229 => 74 | n => n, fun | n => n⟩
theorem Try.sortIntL : Go.Proofs.Lays.n189 Try.prog Try.sortIntL_ren := {
  mixed := by kernel_rfl
  f125 := Try.func50.trans (congrArg some (by kernel_rfl))
  f128 := Try.func60.trans (congrArg some (by kernel_rfl))
  f129 := Try.func61.trans (congrArg some (by kernel_rfl))
  f189 := Try.func39.trans (congrArg some (by kernel_rfl))
  f215 := Try.func67.trans (congrArg some (by kernel_rfl))
  f216 := Try.func57.trans (congrArg some (by kernel_rfl))
  f257 := Try.func49.trans (congrArg some (by kernel_rfl))
  f294 := Try.func51.trans (congrArg some (by kernel_rfl))
  f295 := Try.func52.trans (congrArg some (by kernel_rfl))
  f296 := Try.func53.trans (congrArg some (by kernel_rfl))
  f297 := Try.func54.trans (congrArg some (by kernel_rfl))
  f298 := Try.func55.trans (congrArg some (by kernel_rfl))
  f299 := Try.func56.trans (congrArg some (by kernel_rfl))
  f300 := Try.func58.trans (congrArg some (by kernel_rfl))
  f301 := Try.func59.trans (congrArg some (by kernel_rfl))
  f328 := Try.func62.trans (congrArg some (by kernel_rfl))
  f329 := Try.func63.trans (congrArg some (by kernel_rfl))
  f330 := Try.func64.trans (congrArg some (by kernel_rfl))
  f331 := Try.func65.trans (congrArg some (by kernel_rfl))
  f332 := Try.func66.trans (congrArg some (by kernel_rfl))
  f343 := Try.func68.trans (congrArg some (by kernel_rfl))
  t0 := Try.underlying0
  a0 := Try.isAgg0
  z0 := Try.sizeOf0
  v0 := Try.zeroValue0
  t3 := Try.underlying3
  a3 := Try.isAgg3
  z3 := Try.sizeOf3
  v3 := Try.zeroValue3
  t4 := Try.underlying4
  a4 := Try.isAgg4
  z4 := Try.sizeOf4
  v4 := Try.zeroValue4
  t5 := Try.underlying5
  a5 := Try.isAgg5
  z5 := Try.sizeOf5
  v5 := Try.zeroValue5
  t9 := Try.underlying9
  a9 := Try.isAgg9
  z9 := Try.sizeOf9
  v9 := Try.zeroValue9
  t28 := Try.underlying38
  a28 := Try.isAgg38
  z28 := Try.sizeOf38
  v28 := Try.zeroValue38
  t46 := Try.underlying83
  a46 := Try.isAgg83
  z46 := Try.sizeOf83
  v46 := Try.zeroValue83
  t51 := Try.underlying25
  a51 := Try.isAgg25
  z51 := Try.sizeOf25
  v51 := Try.zeroValue25
  t53 := Try.underlying95
  a53 := Try.isAgg95
  z53 := Try.sizeOf95
  v53 := Try.zeroValue95
  t131 := Try.underlying91
  a131 := Try.isAgg91
  z131 := Try.sizeOf91
  v131 := Try.zeroValue91
  t182 := Try.underlying85
  a182 := Try.isAgg85
  z182 := Try.sizeOf85
  v182 := Try.zeroValue85
  t183 := Try.underlying86
  a183 := Try.isAgg86
  z183 := Try.sizeOf86
  v183 := Try.zeroValue86
  t218 := Try.underlying96
  a218 := Try.isAgg96
  z218 := Try.sizeOf96
  v218 := Try.zeroValue96
  t222 := Try.underlying100
  a222 := Try.isAgg100
  z222 := Try.sizeOf100
  v222 := Try.zeroValue100
  t228 := Try.underlying102
  a228 := Try.isAgg102
  z228 := Try.sizeOf102
  v228 := Try.zeroValue102
  t229 := Try.underlying74
  a229 := Try.isAgg74
  z229 := Try.sizeOf74
  v229 := Try.zeroValue74 }
theorem sortI_int : Go.AX.SortI Try.prog 39 :=
  ⟨fun w blk cap zs h1 h2 h3 => Any.slices_Sort_int Try.sortIntL blk 0 cap zs w h1 h2 h3, fun w p cap => Any.slices_Sort_int_none Try.sortIntL p cap w⟩
end Go.Proofs
end
