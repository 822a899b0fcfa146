/- Parts: AxA AxB AxC AxD AxE AxF AxG AxH AxHb AxHm AxI. -/
import Derived.WalkKit
import Derived.Laws.Rows
import Derived.Laws.AppendOwn
import Derived.Orders
import Derived.Defers
import Derived.Recover
import Derived.Laws.StructEq
import Derived.Laws.Strings
import Derived.Laws.MakeOwn
import Derived.Laws.Slices
import Derived.Laws.BytesString
import Derived.Lib.ConvBytes
import Derived.MapKept
set_option linter.unusedSimpArgs false
set_option linter.unusedVariables false
section
namespace Go.AX
structure CB where
 k : Nat
 e : Nat
 d : Nat
 s : Option Nat
abbrev CB.new (k e : Nat) : CB := ⟨k, e, 0, none⟩
def CB.at (c : CB) (o : Nat) : Addr := (⟨c.k, c.d, c.s⟩ : Addr).add o
abbrev Inj := Nat → CB
inductive AV where
 | bo (x : Bool)
 | it (k : IntKind) (n : Int)
 | fl (k : FloatKind) (n : Nat)
 | st (x : ByteArray)
 | np
 | pt (b o : Nat)
 | sn
 | sl (b o n c : Nat)
 | sg (b o q n es : Nat)
 | fn (f : Fn) (a c : List AV)
 | nf
 | fc (t : TypeId) (v : AV)
 | ni
 | ag (l : List AV)
 | tu (l : List AV)
 | mn
 | mp (r : Nat)
 deriving Inhabited
mutual
def AV.con (j : Inj) : AV → Value
 | .bo x => .bool x
 | .it k n => .int k n
 | .fl k n => .float k n
 | .st x => .string x
 | .np => .pointer none
 | .pt b o => .pointer (some ((j b).at o))
 | .sn => .slice none 0 0
 | .sl b o n c => .slice (some ((j b).at o)) n c
 | .sg b o q n es => .slice (some ⟨(j b).k, if ((j b).e - o) / es = 0 then q else o, none⟩) n (((j b).e - o) / es)
 | .fn f a c => .func f (AV.conL j a).toArray (AV.conL j c).toArray
 | .nf => .nilFunc
 | .fc t v => .iface t (v.con j)
 | .ni => .nilIface
 | .ag l => .agg (AV.conL j l).toArray
 | .tu l => .tuple (AV.conL j l).toArray
 | .mn => .map none
 | .mp r => .map (some (j r).k)
def AV.conL (j : Inj) : List AV → List Value
 | [] => []
 | v :: r => v.con j :: AV.conL j r
end
theorem conL_eq (j : Inj) : ∀ l, AV.conL j l = l.map (AV.con j)
 | [] => rfl
 | v :: r => by simp only [AV.conL, List.map_cons, conL_eq j r]
def AV.sc : AV → Bool
 | .ag _ => false
 | .tu _ => false
 | _ => true
def AV.scL (l : List AV) : Bool := l.all AV.sc
mutual
def AV.ok (D : Nat → Prop) : AV → Prop
 | .pt b _ => D b
 | .sl b _ _ _ => D b
 | .sg b _ _ _ _ => D b
 | .fn _ a c => AV.okL D a ∧ AV.okL D c
 | .fc _ v => v.ok D
 | .ag l => AV.okL D l ∧ AV.scL l = true
 | .tu l => AV.okL D l
 | .mp r => D r
 | _ => True
def AV.okL (D : Nat → Prop) : List AV → Prop
 | [] => True
 | v :: r => v.ok D ∧ AV.okL D r
end
theorem okL_iff {D : Nat → Prop} : ∀ {l : List AV}, AV.okL D l ↔ ∀ v ∈ l, v.ok D
 | [] => by simp [AV.okL]
 | v :: r => by simp [AV.okL, okL_iff (l := r)]
mutual
theorem ok_mono {D D' : Nat → Prop} (h : ∀ b, D b → D' b) : ∀ (v : AV), v.ok D → v.ok D'
 | .bo _, _ | .it _ _, _ | .fl _ _, _ | .st _, _ | .np, _ | .sn, _ | .nf, _ | .ni, _ | .mn, _ => trivial
 | .pt b _, hv => h b hv
 | .sl b _ _ _, hv => h b hv
 | .sg b _ _ _ _, hv => h b hv
 | .mp b, hv => h b hv
 | .fn _ a c, hv => ⟨okL_mono h a hv.1, okL_mono h c hv.2⟩
 | .fc _ v, hv => ok_mono h v hv
 | .ag l, hv => ⟨okL_mono h l hv.1, hv.2⟩
 | .tu l, hv => okL_mono h l hv
theorem okL_mono {D D' : Nat → Prop} (h : ∀ b, D b → D' b) : ∀ (l : List AV), AV.okL D l → AV.okL D' l
 | [], _ => by simp only [AV.okL]
 | v :: r, hv => ⟨ok_mono h v hv.1, okL_mono h r hv.2⟩
end
mutual
theorem con_congr {D : Nat → Prop} {j j' : Inj} (h : ∀ b, D b → j' b = j b) : ∀ (v : AV), v.ok D → v.con j' = v.con j
 | .bo _, _ | .it _ _, _ | .fl _ _, _ | .st _, _ | .np, _ | .sn, _ | .nf, _ | .ni, _ | .mn, _ => rfl
 | .pt b _, hv => by simp only [AV.con, h b hv]
 | .sl b _ _ _, hv => by simp only [AV.con, h b hv]
 | .sg b _ _ _ _, hv => by simp only [AV.con, h b hv]
 | .mp b, hv => by simp only [AV.con, h b hv]
 | .fn _ a c, hv => by simp only [AV.con, conL_congr h a hv.1, conL_congr h c hv.2]
 | .fc _ v, hv => by simp only [AV.con, con_congr h v hv]
 | .ag l, hv => by simp only [AV.con, conL_congr h l hv.1]
 | .tu l, hv => by simp only [AV.con, conL_congr h l hv]
theorem conL_congr {D : Nat → Prop} {j j' : Inj} (h : ∀ b, D b → j' b = j b) : ∀ (l : List AV), AV.okL D l → AV.conL j' l = AV.conL j l
 | [], _ => rfl
 | v :: r, hv => by simp only [AV.conL, con_congr h v hv.1, conL_congr h r hv.2]
end
theorem at_add {c : CB} {o i : Nat} : (c.at o).add i = c.at (o + i) := by
 unfold CB.at Addr.add
 by_cases h : o = 0 <;> by_cases h' : i = 0 <;> simp [h, h', Nat.add_assoc]
theorem at_own {c : CB} {o : Nat} (hd : c.d = 0) (hs : c.s = none) : c.at o = ⟨c.k, o, none⟩ := by
 unfold CB.at Addr.add
 by_cases h : o = 0 <;> simp [h, hd, hs]
theorem at_new {k e o : Nat} : (CB.new k e).at o = ⟨k, o, none⟩ := at_own rfl rfl
inductive Blk where
 | no
 | ro (l : List AV)
 | rw (l : List AV)
 | mp (es : List (AV × AV))
 deriving Inhabited
def Blk.cells : Blk → List AV
 | .ro l => l
 | .rw l => l
 | _ => []
def Blk.own : Blk → Bool
 | .rw _ => true
 | .mp _ => true
 | _ => false
structure AH where
 nx : Nat
 g : Nat → Blk
def RowAt (w : World) (c : CB) (vs : List Value) : Prop :=
 ∃ cs t fr, w.heap[c.k]? = some (.cells cs t fr) ∧ ∀ (i : Nat) v, vs[i]? = some v → c.s = none ∧ cs[c.d + i]? = some v
def OwnAt (w : World) (c : CB) (vs : List Value) : Prop :=
 ∃ cs t fr, w.heap[c.k]? = some (.cells cs t fr) ∧ (∀ (i : Nat) v, vs[i]? = some v → cs[i]? = some v) ∧ cs.size = c.e ∧ vs.length ≤ c.e ∧
  (fr.1 = fr.2 ∨ cs.size ≤ fr.1)
theorem OwnAt.row {w : World} {c : CB} {vs : List Value} (h : OwnAt w c vs) (hd : c.d = 0) (hs : c.s = none) : RowAt w c vs := by
 obtain ⟨cs, t, fr, h1, h2, _⟩ := h
 exact ⟨cs, t, fr, h1, fun i v hv => ⟨hs, by rw [hd, Nat.zero_add]; exact h2 i v hv⟩⟩
def mapL (en : Array MapEntry) (c : Nat) : List (Value × Value) := (.int .i64 c, .bool true) :: en.toList.map fun e => (e.key, .tuple #[e.val, .int .i64 e.born])
def MapAt (w : World) (k : Nat) (es : List (Value × Value)) : Prop :=
 ∃ (en : Array MapEntry) (c : Nat), w.heap[k]? = some (.map en c) ∧ mapL en c = es
def conM (j : Inj) (es : List (AV × AV)) : List (Value × Value) := es.map fun e => (e.1.con j, e.2.con j)
def okM (D : Nat → Prop) (es : List (AV × AV)) : Prop := ∀ e ∈ es, e.1.ok D ∧ e.2.ok D
theorem okM_mono {D D' : Nat → Prop} (h : ∀ b, D b → D' b) {es : List (AV × AV)} (he : okM D es) : okM D' es := fun e hm => ⟨ok_mono h _ (he e hm).1, ok_mono h _ (he e hm).2⟩
theorem conM_congr {D : Nat → Prop} {j j' : Inj} (h : ∀ b, D b → j' b = j b) {es : List (AV × AV)} (he : okM D es) : conM j' es = conM j es :=
 List.map_congr_left fun e hm => by rw [con_congr h _ (he e hm).1, con_congr h _ (he e hm).2]
structure Sim (base : Nat) (D : Nat → Prop) (j : Inj) (H : AH) (w : World) : Prop where
 lt : ∀ b, D b → b < H.nx
 wf : ∀ b, H.nx ≤ b → H.g b = .no
 size : base ≤ w.heap.size
 ro : ∀ b l, D b → H.g b = .ro l → RowAt w (j b) (AV.conL j l) ∧ AV.okL D l ∧ AV.scL l = true
 rw : ∀ b l, D b → H.g b = .rw l → OwnAt w (j b) (AV.conL j l) ∧ AV.okL D l ∧ AV.scL l = true ∧ base ≤ (j b).k ∧ (j b).d = 0 ∧ (j b).s = none
 mp : ∀ b es, D b → H.g b = .mp es → MapAt w (j b).k (conM j es) ∧ okM D es ∧ base ≤ (j b).k
 inj : ∀ b b', D b → D b' → (H.g b).own = true → H.g b' ≠ .no → (j b').k = (j b).k → b' = b
structure Fr (D : Nat → Prop) (j : Inj) (H : AH) (w w' : World) : Prop where
 os : w'.os = w.os
 tape : w'.tape = w.tape
 output : w'.output = w.output
 size : w.heap.size ≤ w'.heap.size
 block : ∀ k, k < w.heap.size → (∀ b, D b → (H.g b).own = true → (j b).k ≠ k) → w'.heap[k]? = w.heap[k]?
structure Evo (H H' : AH) : Prop where
 nx : H.nx ≤ H'.nx
 no : ∀ b, b < H.nx → H.g b = .no → H'.g b = .no
 ro : ∀ b l, b < H.nx → H.g b = .ro l → H'.g b = .ro l
 own : ∀ b, b < H.nx → (H.g b).own = true → H'.g b = .no ∨ (H'.g b).own = true
theorem Evo.refl (H : AH) : Evo H H := ⟨Nat.le_refl _, fun _ _ h => h, fun _ _ _ h => h, fun b _ h => .inr h⟩
theorem Evo.trans {H H1 H2 : AH} (a : Evo H H1) (c : Evo H1 H2) : Evo H H2 := by
 refine ⟨Nat.le_trans a.nx c.nx, fun b hb h => c.no b (Nat.lt_of_lt_of_le hb a.nx) (a.no b hb h), fun b l hb h => c.ro b l (Nat.lt_of_lt_of_le hb a.nx) (a.ro b l hb h), fun b hb h => ?_⟩
 have hb' := Nat.lt_of_lt_of_le hb a.nx
 rcases a.own b hb h with h1 | h1
 ·exact .inl (c.no b hb' h1)
 ·exact c.own b hb' h1
theorem Evo.back {H H' : AH} (a : Evo H H') {b : Nat} (hb : b < H.nx) (h : (H'.g b).own = true) : (H.g b).own = true := by
 cases hg : H.g b with
 | no => rw [a.no b hb hg] at h; simp [Blk.own] at h
 | ro l => rw [a.ro b l hb hg] at h; simp [Blk.own] at h
 | rw l => rfl
 | mp l => rfl
def Dnew (D : Nat → Prop) (H H' : AH) (b : Nat) : Prop := D b ∨ (H.nx ≤ b ∧ b < H'.nx)
structure Post (base : Nat) (D : Nat → Prop) (j : Inj) (H : AH) (w : World) (H' : AH) (w' : World) (j' : Inj) : Prop where
 evo : Evo H H'
 agr : ∀ b, D b → j' b = j b
 sim : Sim base (Dnew D H H') j' H' w'
 fr : Fr D j H w w'
 fresh : ∀ b, H.nx ≤ b → b < H'.nx → H'.g b ≠ .no → w.heap.size ≤ (j' b).k ∨ ∃ b0, D b0 ∧ (H.g b0).own = true ∧ H'.g b0 = .no ∧ (j b0).k = (j' b).k
theorem Dnew.self {D : Nat → Prop} {H : AH} {b : Nat} : Dnew D H H b ↔ D b := ⟨fun h => h.elim id fun ⟨h1, h2⟩ => by omega, .inl⟩
theorem Fr.refl (D : Nat → Prop) (j : Inj) (H : AH) (w : World) : Fr D j H w w := ⟨rfl, rfl, rfl, Nat.le_refl _, fun _ _ _ => rfl⟩
theorem Sim.iffD {base : Nat} {D D' : Nat → Prop} {j : Inj} {H : AH} {w : World} (h : Sim base D j H w) (e : ∀ b, D' b ↔ D b) : Sim base D' j H w := by
 have : D' = D := funext fun b => propext (e b)
 rw [this]; exact h
theorem Post.refl {base : Nat} {D : Nat → Prop} {j : Inj} {H : AH} {w : World} (h : Sim base D j H w) : Post base D j H w H w j :=
 ⟨Evo.refl H, fun _ _ => rfl, h.iffD fun _ => Dnew.self, Fr.refl .., fun b h1 h2 _ => by omega⟩
theorem Post.trans {base : Nat} {D : Nat → Prop} {j j1 j2 : Inj} {H H1 H2 : AH} {w w1 w2 : World}
  (a : Post base D j H w H1 w1 j1) (c : Post base (Dnew D H H1) j1 H1 w1 H2 w2 j2) (hlt : ∀ b, D b → b < H.nx) : Post base D j H w H2 w2 j2 := by
 have e1 := a.evo.nx
 have e2 := c.evo.nx
 refine ⟨a.evo.trans c.evo, fun b hb => (c.agr b (.inl hb)).trans (a.agr b hb), c.sim.iffD fun b => ?_, ⟨c.fr.os.trans a.fr.os, c.fr.tape.trans a.fr.tape, c.fr.output.trans a.fr.output, Nat.le_trans a.fr.size c.fr.size, ?_⟩, ?_⟩
 ·constructor
  ·rintro (h | ⟨h1, h2⟩)
   ·exact .inl (.inl h)
   ·rcases Nat.lt_or_ge b H1.nx with h3 | h3
    ·exact .inl (.inr ⟨h1, h3⟩)
    ·exact .inr ⟨h3, h2⟩
  ·rintro ((h | ⟨h1, h2⟩) | ⟨h1, h2⟩)
   ·exact .inl h
   ·exact .inr ⟨h1, by omega⟩
   ·exact .inr ⟨by omega, h2⟩
 ·intro k hk hn
  have hk1 : w1.heap[k]? = w.heap[k]? := a.fr.block k hk hn
  rw [← hk1]
  refine c.fr.block k (Nat.lt_of_lt_of_le hk a.fr.size) ?_
  intro b hb hl
  rcases hb with hb | ⟨h1, h2⟩
  ·rw [a.agr b hb]
   exact hn b hb (a.evo.back (hlt b hb) hl)
  ·rcases a.fresh b h1 h2 (fun e => by rw [e] at hl; simp [Blk.own] at hl) with h3 | ⟨b0, hb0, hg0, _, hk0⟩
   ·omega
   ·rw [← hk0]; exact hn b0 hb0 hg0
 ·intro b h1 h2 hno
  rcases Nat.lt_or_ge b H1.nx with h3 | h3
  ·have hD1 : Dnew D H H1 b := .inr ⟨h1, h3⟩
   have hno1 : H1.g b ≠ .no := fun e => hno (c.evo.no b h3 e)
   rw [c.agr b hD1]
   rcases a.fresh b h1 h3 hno1 with h4 | ⟨b0, hb0, hg0, hn0, hk0⟩
   ·exact .inl h4
   ·exact .inr ⟨b0, hb0, hg0, c.evo.no b0 (Nat.lt_of_lt_of_le (hlt b0 hb0) e1) hn0, hk0⟩
  ·rcases c.fresh b h3 h2 hno with h4 | ⟨b0, hb0, hg0, hn0, hk0⟩
   ·exact .inl (Nat.le_trans a.fr.size h4)
   ·rcases hb0 with hb0 | ⟨h5, h6⟩
    ·rw [a.agr b0 hb0] at hk0
     exact .inr ⟨b0, hb0, a.evo.back (hlt b0 hb0) hg0, hn0, hk0⟩
    ·rcases a.fresh b0 h5 h6 (fun e => by rw [e] at hg0; simp [Blk.own] at hg0) with h7 | ⟨b1, hb1, hg1, hn1, hk1⟩
     ·exact .inl (by omega)
     ·exact .inr ⟨b1, hb1, hg1, c.evo.no b1 (Nat.lt_of_lt_of_le (hlt b1 hb1) e1) hn1, hk1.trans hk0⟩
end Go.AX
end
section
namespace Go.AX
open Go
theorem con_one {j : Inj} : ∀ {v : AV}, v.sc = true → (v.con j).oneCell' = true
 | .ag _, h => by simp [AV.sc] at h
 | .tu _, h => by simp [AV.sc] at h
 | .bo _, _ | .it _ _, _ | .fl _ _, _ | .st _, _ | .np, _ | .pt _ _, _ | .sn, _ | .sl _ _ _ _, _ | .sg _ _ _ _ _, _ | .fn _ _ _, _ | .nf, _ | .fc _ _, _ | .ni, _ | .mn, _ | .mp _, _ => rfl
theorem conL_length {j : Inj} (l : List AV) : (AV.conL j l).length = l.length := by rw [conL_eq]; simp
theorem conL_get {j : Inj} (l : List AV) (i : Nat) : (AV.conL j l)[i]? = (l[i]?).map (AV.con j) := by rw [conL_eq]; simp
theorem conL_append {j : Inj} (l m : List AV) : AV.conL j (l ++ m) = AV.conL j l ++ AV.conL j m := by simp [conL_eq]
theorem conL_one {j : Inj} {l : List AV} (h : AV.scL l = true) : ∀ v ∈ AV.conL j l, v.oneCell' = true := by
 intro v hv
 rw [conL_eq] at hv
 obtain ⟨a, ha, rfl⟩ := List.mem_map.1 hv
 exact con_one (List.all_eq_true.1 h a ha)
def AV.cl : AV → Option (List AV)
 | .ag l => some l
 | .tu _ => none
 | v => some [v]
theorem cl_con {j : Inj} {D : Nat → Prop} : ∀ {v : AV} {l : List AV}, v.cl = some l → v.ok D → (v.con j).cells = (AV.conL j l).toArray ∧ AV.okL D l ∧ AV.scL l = true
 | .ag l, l', h, hv => by
  simp only [AV.cl, Option.some.injEq] at h
  subst h
  exact ⟨by simp [AV.con, Value.cells], hv.1, hv.2⟩
 | .tu _, _, h, _ => by simp [AV.cl] at h
 | .bo _, _, h, hv | .it _ _, _, h, hv | .fl _ _, _, h, hv | .st _, _, h, hv | .np, _, h, hv | .pt _ _, _, h, hv | .sn, _, h, hv | .sl _ _ _ _, _, h, hv | .sg _ _ _ _ _, _, h, hv | .fn _ _ _, _, h, hv
 | .nf, _, h, hv | .fc _ _, _, h, hv | .ni, _, h, hv | .mn, _, h, hv | .mp _, _, h, hv => by
  simp only [AV.cl, Option.some.injEq] at h
  subst h
  exact ⟨by simp [AV.con, Value.cells, AV.conL], ⟨hv, by simp only [AV.okL]⟩, rfl⟩
def Blk.isRw : Blk → Bool
 | .rw _ => true
 | _ => false
theorem isRw_own {k : Blk} (h : k.isRw = true) : k.own = true := by cases k <;> simp [Blk.isRw] at h <;> rfl
def AH.al (H : AH) (l : List AV) : AH := ⟨H.nx + 1, fun b => if b = H.nx then .rw l else H.g b⟩
def Inj.put (j : Inj) (b : Nat) (c : CB) : Inj := fun x => if x = b then c else j x
theorem Sim.row_lt {base : Nat} {D : Nat → Prop} {j : Inj} {H : AH} {w : World} (S : Sim base D j H w) {b : Nat} (hb : D b) (h : H.g b ≠ .no) : (j b).k < w.heap.size := by
 cases hg : H.g b with
 | no => exact absurd hg h
 | ro l =>
  obtain ⟨⟨cs, t, fr, h1, _⟩, _⟩ := S.ro b l hb hg
  exact (Array.getElem?_eq_some_iff.1 h1).1
 | rw l =>
  obtain ⟨⟨cs, t, fr, h1, _⟩, _⟩ := S.rw b l hb hg
  exact (Array.getElem?_eq_some_iff.1 h1).1
 | mp es =>
  obtain ⟨⟨en, c, h1, _⟩, _⟩ := S.mp b es hb hg
  exact (Array.getElem?_eq_some_iff.1 h1).1
theorem okL_Dnew {D : Nat → Prop} {H H' : AH} {l : List AV} (h : AV.okL D l) : AV.okL (Dnew D H H') l := okL_mono (fun _ => .inl) l h
theorem ok_Dnew {D : Nat → Prop} {H H' : AH} {v : AV} (h : v.ok D) : v.ok (Dnew D H H') := ok_mono (fun _ => .inl) v h
theorem conL_put {D : Nat → Prop} {j : Inj} {H : AH} (hlt : ∀ b, D b → b < H.nx) (c : CB) {l : List AV} (h : AV.okL D l) : AV.conL (j.put H.nx c) l = AV.conL j l :=
 conL_congr (fun b hb => by have := hlt b hb; simp only [Inj.put]; rw [if_neg (by omega)]) l h
theorem Evo.al (H : AH) (l : List AV) : Evo H (H.al l) := by
 refine ⟨Nat.le_succ _, ?_, ?_, ?_⟩
 ·intro b hb h
  simp only [AH.al]; rw [if_neg (by omega)]; exact h
 ·intro b l hb h
  simp only [AH.al]; rw [if_neg (by omega)]; exact h
 ·intro b hb h
  simp only [AH.al]; rw [if_neg (by omega)]; exact .inr h
theorem Sim.alloc {base : Nat} {D : Nat → Prop} {j : Inj} {H : AH} {w : World} (S : Sim base D j H w) {l : List AV} (hl : AV.okL D l) (hs : AV.scL l = true)
  (cs : Array Value) (t : TypeId) (fr : Nat × Nat) (n : Nat) (hcs : ∀ (i : Nat) v, (AV.conL j l)[i]? = some v → cs[i]? = some v) (hsz : l.length ≤ cs.size) (hfr : fr.1 = fr.2 ∨ cs.size ≤ fr.1)
  {w' : World} (hw : w' = { w with heap := w.heap.push (.cells cs t fr), drawn := n }) :
  Post base D j H w (H.al l) w' (j.put H.nx (.new w.heap.size cs.size)) := by
 subst hw
 have hold : ∀ k, k < w.heap.size → (w.heap.push (Obj.cells cs t fr))[k]? = w.heap[k]? := fun k hk => by
  rw [Array.getElem?_push, if_neg (by omega)]
 have hD : ∀ b, Dnew D H (H.al l) b → b = H.nx ∨ (D b ∧ b < H.nx) := by
  rintro b (hb | ⟨h1, h2⟩)
  ·exact .inr ⟨hb, S.lt b hb⟩
  ·simp only [AH.al] at h2; exact .inl (by omega)
 refine ⟨Evo.al H l, fun b hb => ?_, ⟨?_, ?_, ?_, ?_, ?_, ?_, ?_⟩, ⟨rfl, rfl, rfl, by simp, fun k hk _ => hold k hk⟩, ?_⟩
 ·have := S.lt b hb; simp only [Inj.put]; rw [if_neg (by omega)]
 ·intro b hb
  rcases hD b hb with rfl | ⟨_, h⟩ <;> simp only [AH.al] <;> omega
 ·intro b hb
  simp only [AH.al] at hb ⊢
  rw [if_neg (by omega)]
  exact S.wf b (by omega)
 ·have := S.size; simp; omega
 ·intro b l' hb hg
  rcases hD b hb with rfl | ⟨hb', h⟩
  ·simp [AH.al] at hg
  ·simp only [AH.al] at hg
   rw [if_neg (by omega)] at hg
   obtain ⟨⟨cs', t', fr', h1, h2⟩, h3, h4⟩ := S.ro b l' hb' hg
   rw [conL_put S.lt _ h3]
   have hj : (j.put H.nx (.new w.heap.size cs.size)) b = j b := by simp only [Inj.put]; rw [if_neg (by omega)]
   rw [hj]
   refine ⟨⟨cs', t', fr', ?_, h2⟩, okL_Dnew h3, h4⟩
   rw [hold _ (Array.getElem?_eq_some_iff.1 h1).1]; exact h1
 ·intro b l' hb hg
  rcases hD b hb with rfl | ⟨hb', h⟩
  ·simp only [AH.al, if_true, Blk.rw.injEq] at hg
   subst hg
   rw [conL_put S.lt _ hl]
   refine ⟨⟨cs, t, fr, ?_, hcs, ?_, ?_, hfr⟩, okL_Dnew hl, hs, ?_⟩
   ·simp [Inj.put]
   ·simp [Inj.put]
   ·simp [Inj.put, conL_length]; exact hsz
   ·simp [Inj.put]; exact S.size
  ·simp only [AH.al] at hg
   rw [if_neg (by omega)] at hg
   obtain ⟨⟨cs', t', fr', h1, h2, h5, h6, h7⟩, h3, h4, h8⟩ := S.rw b l' hb' hg
   rw [conL_put S.lt _ h3]
   have hj : (j.put H.nx (.new w.heap.size cs.size)) b = j b := by simp only [Inj.put]; rw [if_neg (by omega)]
   rw [hj]
   refine ⟨⟨cs', t', fr', ?_, h2, h5, h6, h7⟩, okL_Dnew h3, h4, h8⟩
   rw [hold _ (Array.getElem?_eq_some_iff.1 h1).1]; exact h1
 ·intro b l' hb hg
  rcases hD b hb with rfl | ⟨hb', h⟩
  ·simp [AH.al] at hg
  ·simp only [AH.al] at hg
   rw [if_neg (by omega)] at hg
   obtain ⟨⟨en, c, h1, h2⟩, h3, h4⟩ := S.mp b l' hb' hg
   have hj : (j.put H.nx (.new w.heap.size cs.size)) b = j b := by simp only [Inj.put]; rw [if_neg (by omega)]
   rw [hj, conM_congr (j := j) (fun x hx => by have := S.lt x hx; simp only [Inj.put]; rw [if_neg (by omega)]) h3]
   exact ⟨⟨en, c, by rw [hold _ (Array.getElem?_eq_some_iff.1 h1).1]; exact h1, h2⟩, okM_mono (fun _ => .inl) h3, h4⟩
 ·intro b b' hb hb' hg hg' hk
  rcases hD b hb with rfl | ⟨hb1, h⟩
  ·rcases hD b' hb' with rfl | ⟨hb2, h'⟩
   ·rfl
   ·exfalso
    simp only [AH.al] at hg'
    rw [if_neg (by omega)] at hg'
    have h3 := S.row_lt hb2 hg'
    simp only [Inj.put, if_true] at hk
    rw [if_neg (by omega)] at hk
    omega
  ·simp only [AH.al] at hg
   rw [if_neg (by omega)] at hg
   rcases hD b' hb' with rfl | ⟨hb2, h'⟩
   ·exfalso
    have h3 := S.row_lt hb1 (fun e => by rw [e] at hg; simp [Blk.own] at hg)
    simp only [Inj.put, if_true] at hk
    rw [if_neg (by omega)] at hk
    omega
   ·simp only [AH.al] at hg'
    rw [if_neg (by omega)] at hg'
    simp only [Inj.put] at hk
    rw [if_neg (by omega), if_neg (by omega)] at hk
    exact S.inj b b' hb1 hb2 hg hg' hk
 ·intro b h1 h2 _
  simp only [AH.al] at h2
  obtain rfl : b = H.nx := by omega
  exact .inl (by simp [Inj.put])
def AH.rd (H : AH) (b o n : Nat) : Option (List AV) := if o + n ≤ (H.g b).cells.length then some (((H.g b).cells.drop o).take n) else none
theorem Sim.cell {base : Nat} {D : Nat → Prop} {j : Inj} {H : AH} {w : World} (S : Sim base D j H w) {b : Nat} (hb : D b) {i : Nat} {v : AV} (h : (H.g b).cells[i]? = some v) :
  w.cell? ((j b).at i) = some (v.con j) ∧ v.ok D ∧ v.sc = true := by
 have hrow : RowAt w (j b) (AV.conL j (H.g b).cells) ∧ AV.okL D (H.g b).cells ∧ AV.scL (H.g b).cells = true := by
  cases hg : H.g b with
  | no => rw [hg] at h; simp [Blk.cells] at h
  | ro l => exact S.ro b l hb hg
  | rw l => obtain ⟨h1, h2, h3, _, h5, h6⟩ := S.rw b l hb hg; exact ⟨h1.row h5 h6, h2, h3⟩
  | mp l => rw [hg] at h; simp [Blk.cells] at h
 obtain ⟨⟨cs, t, fr, h1, h2⟩, h3, h4⟩ := hrow
 have hm := List.mem_of_getElem? h
 refine ⟨?_, okL_iff.1 h3 v hm, List.all_eq_true.1 h4 v hm⟩
 obtain ⟨h5, h6⟩ := h2 i _ (by rw [conL_get, h]; rfl)
 have ha : (j b).at i = ⟨(j b).k, (j b).d + i, none⟩ := by
  unfold CB.at Addr.add
  by_cases h0 : i = 0 <;> simp [h0, h5]
 rw [ha]
 simp only [World.cell?, h1]
 simp only [Option.isSome_none, Bool.false_eq_true, if_false]
 exact h6
theorem addr_add (b o i : Nat) : (⟨b, o, none⟩ : Addr).add i = ⟨b, o + i, none⟩ := by unfold Addr.add; split <;> simp_all
theorem Sim.loadCells {P : Program} {base : Nat} {D : Nat → Prop} {j : Inj} {H : AH} {w : World} (S : Sim base D j H w) {b o n : Nat} (hb : D b) {l : List AV} (h : H.rd b o n = some l) :
  (loadCells ((j b).at o) n).run P w = .ok (AV.conL j l).toArray w ∧ AV.okL D l ∧ AV.scL l = true ∧ l.length = n := by
 unfold AH.rd at h
 split at h
 ·rename_i hle
  simp only [Option.some.injEq] at h
  subst h
  have hlen : (((H.g b).cells.drop o).take n).length = n := by simp; omega
  have hget : ∀ i v, (((H.g b).cells.drop o).take n)[i]? = some v → (H.g b).cells[o + i]? = some v := by
   intro i v hi
   rw [List.getElem?_take] at hi
   split at hi
   ·rw [List.getElem?_drop] at hi; exact hi
   ·simp at hi
  refine ⟨?_, ?_, ?_, hlen⟩
  ·have := run_loadCells_list (P := P) w ((j b).at o) (AV.conL j (((H.g b).cells.drop o).take n)) (fun i v hi => by
    rw [conL_get] at hi
    obtain ⟨a, ha, rfl⟩ := Option.map_eq_some_iff.1 hi
    rw [at_add]
    exact (S.cell hb (hget i a ha)).1)
   rw [conL_length, hlen] at this
   exact this
  ·rw [okL_iff]
   intro v hv
   obtain ⟨i, hi⟩ := List.mem_iff_getElem?.1 hv
   exact (S.cell hb (hget i v hi)).2.1
  ·rw [AV.scL, List.all_eq_true]
   intro v hv
   obtain ⟨i, hi⟩ := List.mem_iff_getElem?.1 hv
   exact (S.cell hb (hget i v hi)).2.2
 ·simp at h
def splice (l : List AV) (o : Nat) (m : List AV) : List AV := l.take o ++ (m ++ l.drop (o + m.length))
theorem splice_length {l : List AV} {o : Nat} {m : List AV} (h : o + m.length ≤ l.length) : (splice l o m).length = l.length := by
 simp [splice]; omega
def AH.up (H : AH) (b : Nat) (l : List AV) : AH := ⟨H.nx, fun x => if x = b then .rw l else H.g x⟩
def AH.wr (H : AH) (b o : Nat) (m : List AV) : Option AH :=
 match H.g b with
 | .rw l => if o + m.length ≤ l.length then some (H.up b (splice l o m)) else none
 | _ => none
theorem Evo.up {H : AH} {b : Nat} {l l' : List AV} (h : H.g b = .rw l) : Evo H (H.up b l') := by
 refine ⟨Nat.le_refl _, ?_, ?_, ?_⟩
 ·intro x hx hno
  simp only [AH.up]; rw [if_neg (fun e => by subst e; rw [h] at hno; cases hno)]; exact hno
 ·intro x lx hx hro
  simp only [AH.up]; rw [if_neg (fun e => by subst e; rw [h] at hro; cases hro)]; exact hro
 ·intro x hx hrw
  simp only [AH.up]
  split
  ·exact .inr rfl
  ·exact .inr hrw
theorem Sim.up {base : Nat} {D : Nat → Prop} {j : Inj} {H : AH} {w : World} (S : Sim base D j H w) {b : Nat} (hb : D b) {l l' : List AV} (hg : H.g b = .rw l) (hl : AV.okL D l') (hs : AV.scL l' = true)
  {w' : World} {t : TypeId} {fr : Nat × Nat} {cs cs' : Array Value} (hw0 : w.heap[(j b).k]? = some (.cells cs t fr)) (hw : w'.heap[(j b).k]? = some (.cells cs' t fr)) (hsz : cs'.size = cs.size) (hlen : l'.length ≤ cs.size)
  (hcs : ∀ (i : Nat) v, (AV.conL j l')[i]? = some v → cs'[i]? = some v)
  (hother : ∀ k, k ≠ (j b).k → w'.heap[k]? = w.heap[k]?) (hsize : w'.heap.size = w.heap.size) (hos : w'.os = w.os) (htape : w'.tape = w.tape) (hout : w'.output = w.output) :
  Post base D j H w (H.up b l') w' j := by
 have hold : ∀ x, D x → x ≠ b → H.g x ≠ .no → (j x).k ≠ (j b).k := fun x hx hne hn e => hne (S.inj b x hb hx (by rw [hg]; rfl) hn e)
 obtain ⟨⟨cs0, t0, fr0, g1, g2, g5, g6, g7⟩, g3, g4, g8⟩ := S.rw b l hb hg
 rw [hw0] at g1
 simp only [Option.some.injEq, Obj.cells.injEq] at g1
 obtain ⟨rfl, rfl, rfl⟩ := g1
 refine ⟨Evo.up hg, fun _ _ => rfl, Sim.iffD (D := D) ⟨S.lt, fun x hx => by simp only [AH.up] at hx ⊢; rw [if_neg (fun e => by have := S.lt b hb; omega)]; exact S.wf x hx, by rw [hsize]; exact S.size, ?_, ?_, ?_, ?_⟩ (fun x => Dnew.self), ⟨hos, htape, hout, by omega, ?_⟩, fun x h1 h2 _ => by simp only [AH.up] at h2; omega⟩
 ·intro x lx hx hro
  simp only [AH.up] at hro
  split at hro
  ·cases hro
  ·rename_i hne
   obtain ⟨⟨cs1, t1, fr1, h1, h2⟩, h3, h4⟩ := S.ro x lx hx hro
   exact ⟨⟨cs1, t1, fr1, by rw [hother _ (hold x hx hne (by rw [hro]; simp))]; exact h1, h2⟩, h3, h4⟩
 ·intro x lx hx hrw
  simp only [AH.up] at hrw
  split at hrw
  ·rename_i he
   subst he
   simp only [Blk.rw.injEq] at hrw
   subst hrw
   exact ⟨⟨cs', _, _, hw, hcs, by omega, by rw [conL_length]; omega, by rw [hsz]; exact g7⟩, hl, hs, g8⟩
  ·rename_i hne
   obtain ⟨⟨cs1, t1, fr1, h1, h2, h5, h6, h7⟩, h3, h4, h8⟩ := S.rw x lx hx hrw
   exact ⟨⟨cs1, t1, fr1, by rw [hother _ (hold x hx hne (by rw [hrw]; simp))]; exact h1, h2, h5, h6, h7⟩, h3, h4, h8⟩
 ·intro x es hx hmp
  simp only [AH.up] at hmp
  split at hmp
  ·cases hmp
  ·rename_i hne
   obtain ⟨⟨en, c, h1, h2⟩, h3, h4⟩ := S.mp x es hx hmp
   exact ⟨⟨en, c, by rw [hother _ (hold x hx hne (by rw [hmp]; simp))]; exact h1, h2⟩, h3, h4⟩
 ·intro x x' hx hx' hrw hno hk
  have hx1 : (H.g x).own = true := by
   simp only [AH.up] at hrw
   split at hrw
   ·rename_i he; rw [he, hg]; rfl
   ·exact hrw
  have hx2 : H.g x' ≠ .no := by
   simp only [AH.up] at hno
   split at hno
   ·rename_i he; rw [he, hg]; simp
   ·exact hno
  exact S.inj x x' hx hx' hx1 hx2 hk
 ·intro k hk hn
  exact hother k (fun e => hn b hb (by rw [hg]; rfl) e.symm)
theorem setCells_heap_other (b k : Nat) (h : k ≠ b) : ∀ (vs : List Value) (o : Nat) (w : World), (w.setCells b o vs).heap[k]? = w.heap[k]?
 | [], _, _ => rfl
 | v :: r, o, w => by
  simp only [World.setCells]
  rw [setCells_heap_other b k h r]
  exact heap_setCell_other w _ _ v (by simpa using h)
theorem setCells_size (b : Nat) : ∀ (vs : List Value) (o : Nat) (w : World), (w.setCells b o vs).heap.size = w.heap.size
 | [], _, _ => rfl
 | v :: r, o, w => by simp only [World.setCells]; rw [setCells_size b r]; simp
theorem setCells_rest (b : Nat) : ∀ (vs : List Value) (o : Nat) (w : World), (w.setCells b o vs).os = w.os ∧ (w.setCells b o vs).tape = w.tape ∧ (w.setCells b o vs).output = w.output
 | [], _, _ => ⟨rfl, rfl, rfl⟩
 | v :: r, o, w => by
  simp only [World.setCells]
  obtain ⟨h1, h2, h3⟩ := setCells_rest b r (o + 1) (w.setCell ⟨b, o, none⟩ v)
  exact ⟨h1, h2, h3⟩
def writeAll (cs : Array Value) (o : Nat) : List Value → Array Value
 | [] => cs
 | v :: r => writeAll (cs.setIfInBounds o v) (o + 1) r
theorem writeAll_size (cs : Array Value) : ∀ (vs : List Value) (o : Nat), (writeAll cs o vs).size = cs.size := by
 intro vs
 induction vs generalizing cs with
 | nil => intro o; rfl
 | cons v r ih => intro o; simp [writeAll, ih]
theorem writeAll_get : ∀ (vs : List Value) (cs : Array Value) (o i : Nat), o + vs.length ≤ cs.size → (writeAll cs o vs)[i]? = if o ≤ i ∧ i < o + vs.length then vs[i - o]? else cs[i]?
 | [], cs, o, i, _ => by
  simp only [writeAll, List.length_nil, Nat.add_zero]
  rw [if_neg (by omega)]
 | v :: r, cs, o, i, h => by
  simp only [writeAll]
  rw [writeAll_get r _ (o + 1) i (by simp at h ⊢; omega)]
  simp only [List.length_cons] at h ⊢
  by_cases h1 : o + 1 ≤ i ∧ i < o + 1 + r.length
  ·rw [if_pos h1, if_pos (by omega)]
   have : i - o = (i - (o + 1)) + 1 := by omega
   rw [this]; simp
  ·rw [if_neg h1]
   by_cases h2 : i = o
   ·subst h2
    rw [if_pos (by omega)]
    simp [show i < cs.size by omega]
   ·rw [if_neg (by omega), Array.getElem?_setIfInBounds_ne (by omega)]
theorem setCells_heap (b : Nat) (t : TypeId) (fr : Nat × Nat) : ∀ (vs : List Value) (o : Nat) (w : World) (cs : Array Value), w.heap[b]? = some (.cells cs t fr) →
  (w.setCells b o vs).heap[b]? = some (.cells (writeAll cs o vs) t fr)
 | [], _, _, cs, h => h
 | v :: r, o, w, cs, h => by
  simp only [World.setCells, writeAll]
  refine setCells_heap b t fr r (o + 1) _ _ ?_
  simp only [World.setCell, Array.getElem?_modify, if_true, h, Option.map_some]
  simp
theorem Sim.store_k {P : Program} {base : Nat} {D : Nat → Prop} {j : Inj} {H H' : AH} {w : World} (S : Sim base D j H w) {b o : Nat} (hb : D b) {m : List AV} (h : H.wr b o m = some H') (hm : AV.okL D m) (hs : AV.scL m = true) :
  ∃ w', (storeCells ⟨(j b).k, o, none⟩ (AV.conL j m)).run P w = .ok () w' ∧ Post base D j H w H' w' j := by
 unfold AH.wr at h
 cases hg : H.g b with
 | no => rw [hg] at h; cases h
 | ro l => rw [hg] at h; cases h
 | mp l => rw [hg] at h; cases h
 | rw l =>
  rw [hg] at h
  simp only at h
  split at h
  ·rename_i hle
   simp only [Option.some.injEq] at h
   subst h
   obtain ⟨⟨cs, t, fr, g1, g2, g5, g6, g7⟩, g3, g4, g8⟩ := S.rw b l hb hg
   rw [conL_length] at g6
   have hlen : ∀ i, i < (AV.conL j m).length → o + i < cs.size := fun i hi => by rw [conL_length] at hi; omega
   refine ⟨_, run_storeCells_cells (P := P) (j b).k o (AV.conL j m) 0 w (fun i hi => ?_) (fun i hi => ?_) (conL_one hs), ?_⟩
   ·have := hlen i hi
    simp [World.cell?, g1, this]
   ·have := hlen i hi
    simp [World.frozen?, g1]
    intro h3
    omega
   ·have hr := setCells_rest (j b).k (AV.conL j m) (o + 0) w
    refine S.up hb hg ?_ ?_ g1 (setCells_heap (j b).k t fr (AV.conL j m) (o + 0) w cs g1) (writeAll_size _ _ _) (by rw [splice_length hle]; omega) ?_ (fun k hk => setCells_heap_other _ k hk _ _ _) (setCells_size _ _ _ _) hr.1 hr.2.1 hr.2.2
    ·rw [okL_iff] at g3 hm ⊢
     intro v hv
     simp only [splice, List.mem_append] at hv
     rcases hv with hv | hv | hv
     ·exact g3 v (List.mem_of_mem_take hv)
     ·exact hm v hv
     ·exact g3 v (List.mem_of_mem_drop hv)
    ·rw [AV.scL, List.all_eq_true] at g4 hs ⊢
     intro v hv
     simp only [splice, List.mem_append] at hv
     rcases hv with hv | hv | hv
     ·exact g4 v (List.mem_of_mem_take hv)
     ·exact hs v hv
     ·exact g4 v (List.mem_of_mem_drop hv)
    ·intro i v hi
     rw [writeAll_get _ _ _ _ (by rw [conL_length]; omega)]
     rw [conL_get] at hi
     obtain ⟨a, ha, rfl⟩ := Option.map_eq_some_iff.1 hi
     simp only [splice] at ha
     rw [conL_length]
     simp only [Nat.add_zero]
     by_cases h1 : i < o
     ·rw [if_neg (by omega)]
      rw [List.getElem?_append_left (by simp; omega), List.getElem?_take_of_lt h1] at ha
      exact g2 i _ (by rw [conL_get, ha]; rfl)
     ·rw [List.getElem?_append_right (by simp; omega)] at ha
      have hmin : min o l.length = o := by omega
      simp only [List.length_take, hmin] at ha
      by_cases h2 : i < o + m.length
      ·rw [if_pos (by omega), conL_get]
       rw [List.getElem?_append_left (by omega)] at ha
       rw [ha]; rfl
      ·rw [if_neg (by omega)]
       rw [List.getElem?_append_right (by omega), List.getElem?_drop] at ha
       rw [show o + m.length + (i - o - m.length) = i by omega] at ha
       exact g2 i _ (by rw [conL_get, ha]; rfl)
  ·cases h
theorem Sim.own_at {base : Nat} {D : Nat → Prop} {j : Inj} {H : AH} {w : World} (S : Sim base D j H w) {b : Nat} (hb : D b) (h : (H.g b).isRw = true) (o : Nat) : (j b).at o = ⟨(j b).k, o, none⟩ := by
 cases hg : H.g b with
 | rw l => obtain ⟨_, _, _, _, h5, h6⟩ := S.rw b l hb hg; exact at_own h5 h6
 | _ => rw [hg] at h; simp [Blk.isRw] at h
theorem wr_rw {H H' : AH} {b o : Nat} {m : List AV} (h : H.wr b o m = some H') : (H.g b).isRw = true := by
 unfold AH.wr at h
 split at h
 ·rename_i l hg; rw [hg]; rfl
 ·cases h
theorem Sim.store {P : Program} {base : Nat} {D : Nat → Prop} {j : Inj} {H H' : AH} {w : World} (S : Sim base D j H w) {b o : Nat} (hb : D b) {m : List AV} (h : H.wr b o m = some H') (hm : AV.okL D m) (hs : AV.scL m = true) :
  ∃ w', (storeCells ((j b).at o) (AV.conL j m)).run P w = .ok () w' ∧ Post base D j H w H' w' j := by
 rw [S.own_at hb (wr_rw h)]
 exact S.store_k hb h hm hs
end Go.AX
end
section
namespace Go.AX
open Go
inductive Opd where
 | t (n : Nat)
 | k (v : AV)
 | f (n : FuncId)
 deriving Inhabited
abbrev Env := Nat → AV
def ev (E : Env) : Opd → AV
 | .t n => E n
 | .k v => v
 | .f n => .fn (.func n) [] []
def Env.st (E : Env) (d : Nat) (v : AV) : Env := fun i => if i = d then v else E i
def Env.put (E : Env) : Option Nat → AV → Env
 | some d, v => E.st d v
 | none, _ => E
structure Part where
 o : Nat
 n : Nat
 x : Opd
inductive EqT where
 | no
 | bo
 | pt
 | ic
 | sl
 | mp
 | fn
 | ag (s : Nat) (l : List (Nat × Nat))
inductive VOp where
 | mv (x : Opd)
 | pick (c a b : Opd)
 | alloc (z : List AV)
 | box (x : Opd)
 | bld (z : List AV) (ps : List Part)
 | bsl (n : Nat) (z : List AV) (ps : List Part)
 | ld (n : Nat) (x : Opd)            -- a struct, an array
 | ld1 (x : Opd)
 | sto (n : Nat) (a x : Opd)
 | nilc (x : Opd)
 | bin (op : BinOp) (te : EqT) (cn : Bool) (x y : Opd)
 | un (op : UnOp) (x : Opd)
 | cvi (k : IntKind) (x : Opd)
 | cvsame (x : Opd)
 | b2s (x : Opd)                    -- string(bytes)
 | s2b (x : Opd)                    -- []byte(string)
 | mkif (t : TypeId) (x : Opd)
 | mkfn (f : Fn) (a c : List Opd)
 | mks (bytes : Nat) (z : List AV) (l c : Opd)
 | slc (es : Nat) (x : Opd) (lo hi mx : Option Opd)
 | slcs (x : Opd) (lo hi : Option Opd)
 | slca (n es : Nat) (x : Opd) (lo hi mx : Option Opd)
 | fa (o : Nat) (x : Opd)
 | fld (o n : Nat) (ag : Bool) (x : Opd)
 | ia (es : Nat) (x i : Opd)
 | iaa (n es : Nat) (x i : Opd)
 | ix (n es : Nat) (ag : Bool) (x i : Opd)
 | ixs (x i : Opd)
 | ext (x : Opd) (i : Nat)
 | ta (t : TypeId) (z : AV) (x : Opd)   -- v, ok := x.(T), T no interface
 | len (k : Nat) (x : Opd)   -- 0 a string, 1 a slice, 2 a map
 | lenk (n : Nat)
 | cap (x : Opd)
 | mm (mx : Bool) (xs : List Opd)
 | app (es bytes : Nat) (s x : Opd)
 | appn (es bytes : Nat) (z : List AV) (s n : Opd)   -- append(nil, make([]T, n)...)
 | cpy (es : Nat) (d s : Opd)
 | mkm
 | lkp (z : AV) (ok : Bool) (x i : Opd)
 | mup (q : Bool) (m k x : Opd)
 | mdel (m k : Opd)
 | ment (z : AV) (m k : Opd)
def AV.pick : AV → AV → AV → Option AV
 | .bo c, a, b => some (bif c then a else b)
 | _, _, _ => none
def sceq : AV → AV → Option Bool
 | .it k a, .it k' b => if k = k' then some (a == b) else none
 | .bo a, .bo b => some (a == b)
 | .st a, .st b => some (a.toList == b.toList)
 | _, _ => none
def sceqK : Nat → AV → AV → Option Bool
 | 0, .it k a, .it k' b => if k = k' then some (a == b) else none
 | 1, .bo a, .bo b => some (a == b)
 | 2, .st a, .st b => some (a.toList == b.toList)
 | _, _, _ => none
def alleq (xs ys : List AV) : List (Nat × Nat) → Option Bool
 | [] => some true
 | o :: r => (xs[o.1]?).bind fun a => (ys[o.1]?).bind fun b => (sceqK o.2 a b).bind fun e => (alleq xs ys r).bind fun q => some (e && q)
def veq (te : EqT) (cn : Bool) (x y : AV) : Option Bool :=
 match te with
 | .no => none
 | .bo => match x, y with | .bo a, .bo b => some (a == b) | _, _ => none
 | .pt => match x, y with | .np, .np => some true | .np, .pt _ _ => some false | .pt _ _, .np => some false | _, _ => none
 | .ic => match x, y with | .ni, .ni => if cn then some true else none | .ni, .fc _ _ => some false | .fc _ _, .ni => some false | _, _ => none
 | .sl => match x, y with | .sn, .sn => some true | .sn, .sl _ _ _ _ => some false | .sn, .sg _ _ _ _ _ => some false | .sl _ _ _ _, .sn => some false | .sg _ _ _ _ _, .sn => some false | _, _ => none
 | .mp => match x, y with | .mn, .mn => some true | .mn, .mp _ => some false | .mp _, .mn => some false | _, _ => none
 | .fn => match x, y with | .nf, .nf => some true | .nf, .fn _ _ _ => some false | .fn _ _ _, .nf => some false | _, _ => none
 | .ag s l => match x, y with | .ag xs, .ag ys => if xs.length = s ∧ ys.length = s then alleq xs ys l else none | _, _ => none
def intBin (op : BinOp) (k : IntKind) (a b : Int) : Option AV :=
 match op with
 | .add => some (.it k (k.wrap (a + b)))
 | .sub => some (.it k (k.wrap (a - b)))
 | .mul => some (.it k (k.wrap (a * b)))
 | .quo => if b = 0 then none else some (.it k (k.wrap (a.tdiv b)))
 | .rem => if b = 0 then none else some (.it k (a.tmod b))
 | .and => some (.it k (Go.bits .and k a b))
 | .or => some (.it k (Go.bits .or k a b))
 | .xor => some (.it k (Go.bits .xor k a b))
 | .andNot => some (.it k (Go.bits .andNot k a b))
 | .eql => some (.bo (a == b))
 | .neq => some (.bo (a != b))
 | .lss => some (.bo (decide (a < b)))
 | .leq => some (.bo (decide (a ≤ b)))
 | .gtr => some (.bo (decide (a > b)))
 | .geq => some (.bo (decide (a ≥ b)))
 | _ => none
def shBin (op : BinOp) (k : IntKind) (a b : Int) : Option AV :=
 if b < 0 then none else
 match op with
 | .shl => some (.it k (k.wrap (a * 2 ^ (min b.toNat k.bits))))
 | .shr => some (.it k (a.fdiv (2 ^ (min b.toNat k.bits))))
 | _ => none
def BinOp.isSh : BinOp → Bool
 | .shl => true
 | .shr => true
 | _ => false
def vbin (op : BinOp) (te : EqT) (cn : Bool) : AV → AV → Option AV
 | .it k a, .it k' b => if BinOp.isSh op then shBin op k a b else if k = k' then intBin op k a b else none
 | .st a, .st b =>
  match op with
  | .eql => some (.bo (a.toList == b.toList))
  | .neq => some (.bo (!(a.toList == b.toList)))
  | _ => none
 | x, y =>
  match op with
  | .eql => (veq te cn x y).map .bo
  | .neq => (veq te cn x y).map fun e => .bo (!e)
  | _ => none
def vun (op : UnOp) : AV → Option AV
 | .bo a => match op with | .not => some (.bo (!a)) | _ => none
 | .it k a => match op with
  | .neg => some (.it k (k.wrap (0 - a)))
  | .xor => some (.it k (Go.bits .xor k (if k.signed then -1 else k.max) a))
  | _ => none
 | _ => none
def vcvi (k : IntKind) : AV → Option AV
 | .it _ n => some (.it k (k.wrap n))
 | _ => none
def apart (l : List AV) (o n : Nat) (ag : Bool) : Option AV :=
 match ag with
 | true => if o + n ≤ l.length then some (.ag ((l.drop o).take n)) else none
 | false => l[o]?
def vfld (o n : Nat) (ag : Bool) : AV → Option AV
 | .ag l => apart l o n ag
 | _ => none
def vix (n es : Nat) (ag : Bool) : AV → AV → Option AV
 | .ag l, .it _ i => if 0 ≤ i ∧ i < n then apart l (i.toNat * es) es ag else none
 | _, _ => none
def vixs : AV → AV → Option AV
 | .st s, .it _ i => if h : 0 ≤ i ∧ i.toNat < s.size then some (.it .u8 ((s[i.toNat]'h.2).toNat : Int)) else none
 | _, _ => none
def vext (i : Nat) : AV → Option AV
 | .tu l => l[i]?
 | _ => none
def vta (t : TypeId) (z : AV) : AV → Option AV
 | .ni => some (.tu [z, .bo false])
 | .fc u v => if u = t then some (.tu [v, .bo true]) else some (.tu [z, .bo false])
 | _ => none
def vfa (o : Nat) : AV → Option AV
 | .pt b p => some (.pt b (p + o))
 | _ => none
def via (es : Nat) (H : AH) : AV → AV → Option AV
 | .sl b o n _, .it _ i => if 0 ≤ i ∧ i < n then some (.pt b (o + i.toNat * es)) else none
 | .sg b o _ n es', .it _ i => if es' = es ∧ 0 < es ∧ o + n * es ≤ (H.g b).cells.length ∧ (H.g b).isRw = true ∧ 0 ≤ i ∧ i < n then some (.pt b (o + i.toNat * es)) else none
 | _, _ => none
def viaa (n es : Nat) : AV → AV → Option AV
 | .pt b o, .it _ i => if 0 ≤ i ∧ i < n then some (.pt b (o + i.toNat * es)) else none
 | _, _ => none
def vlen (k : Nat) (H : AH) (x : AV) : Option AV :=
 match k with
 | 0 => match x with | .st s => some (.it .i64 s.size) | _ => none
 | 1 => match x with | .sn => some (.it .i64 0) | .sl _ _ n _ => some (.it .i64 n) | .sg _ _ _ n _ => some (.it .i64 n) | _ => none
 | _ => match x with | .mn => some (.it .i64 0) | .mp b => (match H.g b with | .mp es => some (.it .i64 ((es.length : Int) - 1)) | _ => none) | _ => none
def vcap : AV → Option AV
 | .sn => some (.it .i64 0)
 | .sl _ _ _ c => some (.it .i64 c)
 | _ => none
def mm2 (mx : Bool) : AV → AV → Option AV
 | .it k x, .it _ y => some (.it k (match mx with | true => if y > x then y else x | false => if y < x then y else x))
 | _, _ => none
def mmL (mx : Bool) : AV → List AV → Option AV
 | a, [] => some a
 | a, b :: r => (mm2 mx a b).bind fun c => mmL mx c r
def vnilc : AV → Option AV
 | .pt b o => some (.pt b o)
 | .fn (.func f) a c => some (.fn (.func f) a c)
 | _ => none
def bnd (E : Env) (d : Nat) (top : Nat) : Option Opd → Option Nat
 | none => some d
 | some x => match ev E x with | .it _ i => if 0 ≤ i ∧ i ≤ top then some i.toNat else none | _ => none
def slcSl (es b o : Nat) (l h m : Nat) : AV := .sl b (if m = l then o else o + l * es) (h - l) (m - l)
def vslc (es : Nat) (H : AH) (E : Env) (x : AV) (lo hi mx : Option Opd) : Option AV :=
 match x with
 | .sn => (bnd E 0 0 mx).bind fun m => (bnd E 0 m hi).bind fun h => (bnd E 0 h lo).bind fun l => some .sn
 | .sl b o n c => (bnd E c c mx).bind fun m => (bnd E n m hi).bind fun h => (bnd E 0 h lo).bind fun l => some (slcSl es b o l h m)
 | .sg b o q n es' =>
  if es' = es ∧ 0 < es ∧ o + n * es ≤ (H.g b).cells.length ∧ (H.g b).isRw = true then
   match mx with
   | none => (bnd E n n hi).bind fun h => (bnd E 0 h lo).bind fun l => some (if l = 0 then .sg b o q h es else .sg b (o + l * es) o (h - l) es)
   | some m => (bnd E n n (some m)).bind fun m => (bnd E n m hi).bind fun h => (bnd E 0 h lo).bind fun l => if o = q ∨ 0 < n then some (slcSl es b o l h m) else none
  else none
 | _ => none
def vslcs (E : Env) (x : AV) (lo hi : Option Opd) : Option AV :=
 match x with
 | .st s => (bnd E s.size s.size hi).bind fun h => (bnd E 0 h lo).bind fun l => some (.st (s.extract l h))
 | _ => none
def vslca (n es : Nat) (E : Env) (x : AV) (lo hi mx : Option Opd) : Option AV :=
 match x with
 | .pt b o => (bnd E n n mx).bind fun m => (bnd E n m hi).bind fun h => (bnd E 0 h lo).bind fun l => some (slcSl es b o l h m)
 | _ => none
def vfill (E : Env) : List AV → List Part → Option (List AV)
 | cs, [] => some cs
 | cs, p :: r => (ev E p.x).cl.bind fun m => if m.length = p.n ∧ p.o + p.n ≤ cs.length then vfill E (splice cs p.o m) r else none
def AH.no (H : AH) (b : Nat) : AH := ⟨H.nx, fun x => if x = b then .no else H.g x⟩
def AH.mpb (H : AH) (es : List (AV × AV)) : AH := ⟨H.nx + 1, fun b => if b = H.nx then .mp es else H.g b⟩
def AH.mup (H : AH) (b : Nat) (es : List (AV × AV)) : AH := ⟨H.nx, fun x => if x = b then .mp es else H.g x⟩
def AH.sc (H : AH) (es : Nat) : AV → Option (Nat × List AV)
 | .sn => some (0, [])
 | .sl b o n _ => (H.rd b o (n * es)).map fun l => (n, l)
 | .sg b o _ n es' => if es' = es ∧ 0 < es ∧ (H.g b).isRw = true then (H.rd b o (n * es)).map fun l => (n, l) else none
 | _ => none
def vapp (es bytes : Nat) (H : AH) (s : AV) (n : Nat) (m : List AV) : Option (AV × AH) :=
 match s with
 | .sn => if n = 0 then some (.sn, H) else if n * bytes ≤ 140737488355328 then some (.sg H.nx 0 0 n es, H.al m) else none
 | .sl b o k c =>
  if n = 0 then if k ≤ c then some (.sl b o k c, H) else none
  else if k + n ≤ c then (H.wr b (o + k * es) m).map fun H' => (.sl b o (k + n) c, H')
  else if (k + n) * bytes ≤ 140737488355328 then (H.rd b o (k * es)).map fun l => (.sg H.nx 0 0 (k + n) es, H.al (l ++ m)) else none
 | .sg b o q k es' =>
  if es' = es ∧ 0 < es ∧ o + k * es ≤ (H.g b).cells.length ∧ (H.g b).isRw = true then
   if n = 0 then some (.sg b o q k es, H)
   else if o + (k + n) * es ≤ (H.g b).cells.length then (H.wr b (o + k * es) m).map fun H' => (.sg b o q (k + n) es, H')
   else if o = 0 ∧ q = 0 ∧ (k + n) * bytes ≤ 140737488355328 then (H.rd b 0 (k * es)).map fun l => (.sg H.nx 0 0 (k + n) es, (H.al (l ++ m)).no b) else none
  else none
 | _ => none
def vcpy (es : Nat) (H : AH) (d : AV) (n : Nat) (m : List AV) : Option (AV × AH) :=
 match d with
 | .sn => some (.it .i64 0, H)
 | .sl b o k _ => (H.wr b o (m.take (min n k * es))).map fun H' => (.it .i64 (min n k : Nat), H')
 | .sg b o _ k es' => if es' = es ∧ 0 < es ∧ 0 < k ∧ o + k * es ≤ (H.g b).cells.length ∧ (H.g b).own = true then (H.wr b o (m.take (min n k * es))).map fun H' => (.it .i64 (min n k : Nat), H') else none
 | _ => none
def map0 : List (AV × AV) := [(.it .i64 0, .bo true)]
def mfindI (kk : IntKind) (n : Int) : List (AV × AV) → Option (Option (AV × AV))
 | [] => some none
 | (.it k' n', .tu [v, b]) :: r => if k' = kk then (if n = n' then some (some (v, b)) else mfindI kk n r) else none
 | _ :: _ => none
def mstoI (n : Int) (x : AV) : List (AV × AV) → Option (List (AV × AV))
 | [] => none
 | (k, .tu [v, .it .i64 b]) :: r => if b = n then some ((k, .tu [x, .it .i64 b]) :: r) else (mstoI n x r).map ((k, .tu [v, .it .i64 b]) :: ·)
 | _ :: _ => none
def vlkp (z : AV) (ok : Bool) (H : AH) : AV → AV → Option AV
 | .mp b, .it k n => match H.g b with
  | .mp (_ :: es) => (mfindI k n es).map fun r => match r with | some (v, _) => if ok then .tu [v, .bo true] else v | none => if ok then .tu [z, .bo false] else z
  | _ => none
 | _, _ => none
def vment (z : AV) (H : AH) : AV → AV → Option (AV × AH)
 | .mp b, .it k n => match H.g b with
  | .mp ((.it .i64 c, u) :: es) => (mfindI k n es).map fun r => match r with
   | some (v, s) => (.tu [v, s], H.mup b ((.it .i64 c, u) :: es))
   | none => (.tu [z, .it .i64 c], H.mup b ((.it .i64 (c + 1), u) :: (es ++ [(.it k n, .tu [z, .it .i64 c])])))
  | _ => none
 | _, _ => none
def mkeyI (kk : IntKind) (n : Int) (x : AV) : List (AV × AV) → Option (List (AV × AV))
 | [] => none
 | (.it k' n', .tu [v, b]) :: r => if k' = kk then (if n = n' then some ((.it k' n', .tu [x, b]) :: r) else (mkeyI kk n x r).map ((.it k' n', .tu [v, b]) :: ·)) else none
 | _ :: _ => none
def mstoQ (q : Bool) (kk : IntKind) (n : Int) (x : AV) : List (AV × AV) → Option (List (AV × AV))
 | (.it .i64 c, u) :: es => bif q then (mfindI kk n es).bind fun r => match r with
   | some _ => (mkeyI kk n x es).map ((.it .i64 c, u) :: ·)
   | none => some ((.it .i64 (c + 1), u) :: (es ++ [(.it kk n, .tu [x, .it .i64 c])]))
  else (mstoI n x es).map ((.it .i64 c, u) :: ·)
 | _ => none
def vmsto (q : Bool) (H : AH) : AV → AV → AV → Option (AV × AH)
 | .mp b, .it kk n, x => match H.g b with
  | .mp es => (mstoQ q kk n x es).map fun es' => (.tu [], H.mup b es')
  | _ => none
 | _, _, _ => none
def AH.me (H : AH) : AV → Option (List (AV × AV))
 | .mn => some []
 | .mp b => match H.g b with | .mp es => some es | _ => none
 | _ => none
def vsto (n : Nat) (H : AH) (a x : AV) : Option (AV × AH) :=
 match a with
 | .pt b o => x.cl.bind fun m => if m.length = n then (H.wr b o m).map fun H' => (.tu [], H') else none
 | _ => none
def vld (n : Nat) (H : AH) : AV → Option AV
 | .pt b o => (H.rd b o n).map .ag
 | _ => none
def vld1 (H : AH) : AV → Option AV
 | .pt b o => (H.g b).cells[o]?
 | _ => none
def vmks (bytes : Nat) (z : List AV) (H : AH) : AV → AV → Option (AV × AH)
 | .it _ l, .it _ c => if 0 ≤ l ∧ l ≤ c ∧ c ≤ 9223372036854775807 ∧ (bytes : Int) * c ≤ 140737488355328 then some (.sl H.nx 0 l.toNat c.toNat, H.al (List.replicate c.toNat z).flatten) else none
 | _, _ => none
def vcvsame (H : AH) : AV → Option AV
 | .sl b o n c => if (H.g b).own = true then some (.sl b o n c) else none
 | .sg b o q n es => if (H.g b).own = true then some (.sg b o q n es) else none
 | _ => none
def vappn (es bytes : Nat) (z : List AV) (H : AH) : AV → AV → Option (AV × AH)
 | .sn, .it .i64 k => if 0 ≤ k ∧ k ≤ 9223372036854775807 ∧ k.toNat * bytes ≤ 140737488355328 then (if k = 0 then some (.sn, H) else some (.sg H.nx 0 0 k.toNat es, H.al (List.replicate k.toNat z).flatten)) else none
 | _, _ => none
def u8s : List AV → Option (List Int)
 | [] => some []
 | .it .u8 n :: r => (u8s r).map (n :: ·)
 | _ => none
def bst (l : List Int) : ByteArray := l.foldl (fun r n => r.push (UInt8.ofNat n.toNat)) ByteArray.empty
def sbs (s : ByteArray) : List Int := s.data.toList.map fun b => (b.toNat : Int)
def vb2s (H : AH) (a : AV) : Option AV := (H.sc 1 a).bind fun nm => (u8s nm.2).map fun l => .st (bst l)
def vs2b (H : AH) : AV → Option (AV × AH)
 | .st s => some (.sg H.nx 0 0 s.size 1, H.al ((sbs s).map (.it .u8)))
 | _ => none
def vop : VOp → Env → AH → Option (AV × AH)
 | .mv x, E, H => some (ev E x, H)
 | .pick c a b, E, H => (AV.pick (ev E c) (ev E a) (ev E b)).map (·, H)
 | .alloc z, _, H => some (.pt H.nx 0, H.al z)
 | .box x, E, H => (ev E x).cl.map fun l => (.pt H.nx 0, H.al l)
 | .bld z ps, E, H => (vfill E z ps).map fun l => (.ag l, H)
 | .bsl n z ps, E, H => (vfill E z ps).map fun l => (.sl H.nx 0 n n, H.al l)
 | .ld n x, E, H => (vld n H (ev E x)).map (·, H)
 | .ld1 x, E, H => (vld1 H (ev E x)).map (·, H)
 | .sto n a x, E, H => vsto n H (ev E a) (ev E x)
 | .nilc x, E, H => (vnilc (ev E x)).map (·, H)
 | .bin op te cn x y, E, H => (vbin op te cn (ev E x) (ev E y)).map (·, H)
 | .un op x, E, H => (vun op (ev E x)).map (·, H)
 | .cvi k x, E, H => (vcvi k (ev E x)).map (·, H)
 | .cvsame x, E, H => (vcvsame H (ev E x)).map (·, H)
 | .b2s x, E, H => (vb2s H (ev E x)).map (·, H)
 | .s2b x, E, H => vs2b H (ev E x)
 | .mkif t x, E, H => some (.fc t (ev E x), H)
 | .mkfn f a c, E, H => some (.fn f (a.map (ev E)) (c.map (ev E)), H)
 | .mks bytes z l c, E, H => vmks bytes z H (ev E l) (ev E c)
 | .slc es x lo hi mx, E, H => (vslc es H E (ev E x) lo hi mx).map (·, H)
 | .slcs x lo hi, E, H => (vslcs E (ev E x) lo hi).map (·, H)
 | .slca n es x lo hi mx, E, H => (vslca n es E (ev E x) lo hi mx).map (·, H)
 | .fa o x, E, H => (vfa o (ev E x)).map (·, H)
 | .fld o n ag x, E, H => (vfld o n ag (ev E x)).map (·, H)
 | .ia es x i, E, H => (via es H (ev E x) (ev E i)).map (·, H)
 | .iaa n es x i, E, H => (viaa n es (ev E x) (ev E i)).map (·, H)
 | .ix n es ag x i, E, H => (vix n es ag (ev E x) (ev E i)).map (·, H)
 | .ixs x i, E, H => (vixs (ev E x) (ev E i)).map (·, H)
 | .ext x i, E, H => (vext i (ev E x)).map (·, H)
 | .ta t z x, E, H => (vta t z (ev E x)).map (·, H)
 | .len k x, E, H => (vlen k H (ev E x)).map (·, H)
 | .lenk n, _, H => some (.it .i64 n, H)
 | .cap x, E, H => (vcap (ev E x)).map (·, H)
 | .mm mx xs, E, H => match xs with | [] => none | x :: r => (mmL mx (ev E x) (r.map (ev E))).map (·, H)
 | .app es bytes s x, E, H => (H.sc es (ev E x)).bind fun nm => vapp es bytes H (ev E s) nm.1 nm.2
 | .appn es bytes z s n, E, H => vappn es bytes z H (ev E s) (ev E n)
 | .cpy es d s, E, H => (H.sc es (ev E s)).bind fun nm => vcpy es H (ev E d) nm.1 nm.2
 | .mkm, _, H => some (.mp H.nx, H.mpb map0)
 | .lkp z ok x i, E, H => (vlkp z ok H (ev E x) (ev E i)).map (·, H)
 | .ment z m k, E, H => vment z H (ev E m) (ev E k)
 | .mup q m k x, E, H => vmsto q H (ev E m) (ev E k) (ev E x)
 | .mdel _ _, _, _ => none
end Go.AX
end
section
namespace Go.AX
open Go
def absS : Value → Option AV
 | .bool b => some (.bo b)
 | .int k n => some (.it k n)
 | .float k n => some (.fl k n)
 | .string s => some (.st s)
 | .pointer none => some .np
 | .slice none n c => if n = 0 ∧ c = 0 then some .sn else none
 | .nilFunc => some .nf
 | .nilIface => some .ni
 | .map none => some .mn
 | _ => none
theorem absS_con {j : Inj} {D : Nat → Prop} {v : Value} {a : AV} (h : absS v = some a) : a.con j = v ∧ a.ok D ∧ a.sc = true := by
 unfold absS at h
 split at h <;> first
  | (simp only [Option.some.injEq] at h; subst h; exact ⟨rfl, by simp [AV.ok], rfl⟩)
  | (split at h <;> simp only [Option.some.injEq, reduceCtorEq] at h; rename_i hc; obtain ⟨rfl, rfl⟩ := hc; subst h; exact ⟨rfl, by simp [AV.ok], rfl⟩)
  | cases h
def absL : List Value → Option (List AV)
 | [] => some []
 | v :: r => (absS v).bind fun a => (absL r).map (a :: ·)
theorem absL_con {j : Inj} {D : Nat → Prop} : ∀ {l : List Value} {m : List AV}, absL l = some m → AV.conL j m = l ∧ AV.okL D m ∧ AV.scL m = true
 | [], m, h => by simp only [absL, Option.some.injEq] at h; subst h; exact ⟨rfl, by simp only [AV.okL], rfl⟩
 | v :: r, m, h => by
  simp only [absL, Option.bind_eq_some_iff, Option.map_eq_some_iff] at h
  obtain ⟨a, ha, m', hm, rfl⟩ := h
  obtain ⟨h1, h2, h3⟩ := absS_con (j := j) (D := D) ha
  obtain ⟨h4, h5, h6⟩ := absL_con (j := j) (D := D) hm
  exact ⟨by simp only [AV.conL, h1, h4], ⟨h2, h5⟩, by simp only [AV.scL, List.all_cons, h3, Bool.true_and]; exact h6⟩
def absV : Value → Option AV
 | .agg cs => (absL cs.toList).map .ag
 | .tuple cs => (absL cs.toList).map .tu
 | .iface t v => (absS v).map (.fc t)
 | v => absS v
theorem absV_con {j : Inj} {D : Nat → Prop} {v : Value} {a : AV} (h : absV v = some a) : a.con j = v ∧ a.ok D := by
 unfold absV at h
 split at h
 ·obtain ⟨m, hm, rfl⟩ := Option.map_eq_some_iff.1 h
  obtain ⟨h4, h5, h6⟩ := absL_con (j := j) (D := D) hm
  exact ⟨by simp [AV.con, h4], h5, h6⟩
 ·obtain ⟨m, hm, rfl⟩ := Option.map_eq_some_iff.1 h
  obtain ⟨h4, h5, h6⟩ := absL_con (j := j) (D := D) hm
  exact ⟨by simp [AV.con, h4], h5⟩
 ·obtain ⟨m, hm, rfl⟩ := Option.map_eq_some_iff.1 h
  obtain ⟨h4, h5, h6⟩ := absS_con (j := j) (D := D) hm
  exact ⟨by simp [AV.con, h4], h5⟩
 ·obtain ⟨h4, h5, _⟩ := absS_con (j := j) (D := D) h; exact ⟨h4, h5⟩
def resO (nt : Nat) : Operand → Option Opd
 | .tmp t => if t < nt then some (.t t) else none
 | .const v => (absV v).map .k
 | .func f => some (.f f)
 | .global _ => none
structure Rel (nt : Nat) (D : Nat → Prop) (j : Inj) (E : Env) (tm : Array Value) : Prop where
 size : tm.size = nt
 get : ∀ t, t < nt → tm.getD t undef = (E t).con j
 ok : ∀ t, t < nt → (E t).ok D
theorem Rel.ev {nt : Nat} {D : Nat → Prop} {j : Inj} {E : Env} {a : Act} (R : Rel nt D j E a.tmps) {x : Operand} {o : Opd} (h : resO nt x = some o) :
  a.eval x = (ev E o).con j ∧ (ev E o).ok D := by
 cases x with
 | tmp t =>
  simp only [resO] at h
  split at h
  ·rename_i ht
   simp only [Option.some.injEq] at h; subst h
   exact ⟨R.get t ht, R.ok t ht⟩
  ·cases h
 | const v =>
  obtain ⟨a', ha, rfl⟩ := Option.map_eq_some_iff.1 h
  obtain ⟨h1, h2⟩ := absV_con (j := j) (D := D) ha
  exact ⟨h1.symm, h2⟩
 | func f =>
  simp only [resO, Option.some.injEq] at h; subst h
  exact ⟨by simp [Act.eval, AX.ev, AV.con, AV.conL], by simp [AX.ev, AV.ok, AV.okL]⟩
 | global g => simp [resO] at h
def isAggD : TypeDesc → Bool
 | .struct _ => true
 | .array _ _ => true
 | _ => false
def aggT (P : Program) (t : TypeId) : Option Bool := (P.underlying t).map isAggD
def sizT (P : Program) (t : TypeId) : Option Nat := (P.info? t).map (·.size)
def zerT (P : Program) (t : TypeId) : Option (List AV) := (P.info? t).bind fun i => i.zero.bind fun z => absL z.cells.toList
theorem run_isAgg' {P : Program} {t : TypeId} {b : Bool} (h : aggT P t = some b) (w : World) : (isAgg t).run P w = .ok b w := by
 obtain ⟨d, hd, rfl⟩ := Option.map_eq_some_iff.1 h
 unfold isAgg
 rw [Sem.run_bind, run_underlying hd w]
 cases d <;> simp [isAggD]
theorem run_sizeOf' {P : Program} {t : TypeId} {n : Nat} (h : sizT P t = some n) (w : World) : (sizeOf t).run P w = .ok n w := by
 obtain ⟨i, hi, rfl⟩ := Option.map_eq_some_iff.1 h
 simp [sizeOf, typeInfo, hi]
theorem run_zero' {P : Program} {t : TypeId} {z : List AV} (h : zerT P t = some z) (j : Inj) (D : Nat → Prop) (w : World) :
  ∃ v, (zeroValue t).run P w = .ok v w ∧ v.cells = (AV.conL j z).toArray ∧ AV.okL D z ∧ AV.scL z = true := by
 simp only [zerT, Option.bind_eq_some_iff] at h
 obtain ⟨i, hi, v, hv, h⟩ := h
 obtain ⟨h4, h5, h6⟩ := absL_con (j := j) (D := D) h
 exact ⟨v, by simp [zeroValue, typeInfo, hi, hv], by rw [h4], h5, h6⟩
def Snd (P : Program) (base : Nat) (D : Nat → Prop) (j : Inj) (H : AH) (w : World) (ρ : Operand → Value) (o : Oper) (v : AV) (H' : AH) : Prop :=
 ∃ n w' j', (execOp ρ o).run P w = .ok n w' ∧ (n = .value (v.con j') ∨ n = .skip ∧ v = .tu []) ∧ v.ok (Dnew D H H') ∧ Post base D j H w H' w' j'
section
variable {P : Program} {base : Nat} {D : Nat → Prop} {j : Inj} {H H' : AH} {w : World} {ρ : Operand → Value} {o : Oper} {v : AV}
theorem Snd.same (S : Sim base D j H w) (h : (execOp ρ o).run P w = .ok (.value (v.con j)) w) (hv : v.ok D) : Snd P base D j H w ρ o v H :=
 ⟨_, w, j, h, .inl rfl, ok_Dnew hv, Post.refl S⟩
end
theorem intBin_run {P : Program} {w : World} {j : Inj} {op : BinOp} {k : IntKind} {a b : Int} {v : AV} (hs : BinOp.isSh op = false) (h : intBin op k a b = some v) (t : TypeId) :
   (binOp op t (.int k a) (.int k b)).run P w = .ok (v.con j) w := by
 cases op <;> simp only [intBin, Option.some.injEq, reduceCtorEq] at h <;> try (subst h; simp [binOp, Op.intArith, Op.intBits, Op.intCmp, AV.con, Go.bits]; done)
 all_goals first
   | (simp [BinOp.isSh] at hs; done)
   | (split at h
      · cases h
      · rename_i hb
        simp only [Option.some.injEq] at h; subst h
        simp [binOp, Op.intDiv, hb, AV.con])
theorem shBin_run {P : Program} {w : World} {j : Inj} {op : BinOp} {k k' : IntKind} {a b : Int} {v : AV} (hs : BinOp.isSh op = true) (h : shBin op k a b = some v) (t : TypeId) :
  (binOp op t (.int k a) (.int k' b)).run P w = .ok (v.con j) w := by
 unfold shBin at h
 split at h
 ·cases h
 ·rename_i hb
  cases op <;> simp only [BinOp.isSh, Bool.false_eq_true] at hs <;> simp only [Option.some.injEq] at h <;> subst h <;> simp [binOp, Op.shift, hb, AV.con]
def leaves (P : Program) : Nat → TypeId → Nat → Option (List (Nat × Nat))
 | 0, _, _ => none
 | d + 1, t, o =>
  match P.underlying t with
  | some (.int _) => if sizT P t = some 1 then some [(o, 0)] else none
  | some .bool => if sizT P t = some 1 then some [(o, 1)] else none
  | some .string => if sizT P t = some 1 then some [(o, 2)] else none
  | some (.struct fs) => if P.stoodInHeld t then none else (sizT P t).bind fun s => leavesF P d s fs.toList o
  | some (.array n e) => (sizT P t).bind fun s => (sizT P e).bind fun z => if n * z ≤ s then leavesA P d e z o n 0 else none
  | _ => none
where
 leavesF (P : Program) (d s : Nat) : List Field → Nat → Option (List (Nat × Nat))
  | [], _ => some []
  | f :: fs, o => if f.name = "_" then leavesF P d s fs o else (sizT P f.type).bind fun z => if f.offset + z ≤ s then (leaves P d f.type (o + f.offset)).bind fun l => (leavesF P d s fs o).map (l ++ ·) else none
 leavesA (P : Program) (d : Nat) (e : TypeId) (z o : Nat) : Nat → Nat → Option (List (Nat × Nat))
  | 0, _ => some []
  | n + 1, i => (leaves P d e (o + i * z)).bind fun l => (leavesA P d e z o n (i + 1)).map (l ++ ·)
theorem alleq_append {xs ys : List AV} : ∀ {l m : List (Nat × Nat)} {e : Bool}, alleq xs ys (l ++ m) = some e → ∃ e1 e2, alleq xs ys l = some e1 ∧ alleq xs ys m = some e2 ∧ e = (e1 && e2)
 | [], m, e, h => ⟨true, e, rfl, h, by simp⟩
 | o :: r, m, e, h => by
  simp only [List.cons_append, alleq, Option.bind_eq_some_iff] at h
  obtain ⟨a, ha, b, hb, c, hc, q, hq, h⟩ := h
  obtain ⟨e1, e2, h1, h2, rfl⟩ := alleq_append hq
  simp only [Option.some.injEq] at h
  exact ⟨c && e1, e2, by simp [alleq, ha, hb, hc, h1], h2, by rw [← h, Bool.and_assoc]⟩
def partV (P : Program) (t : TypeId) (X : Array Value) (o s : Nat) : Option Value :=
 match aggT P t with
 | some true => some (.agg (X.extract o (o + s)))
 | some false => X[o]?
 | none => none
theorem run_part' {P : Program} {t : TypeId} {X : Array Value} {o s : Nat} {v : Value} (hs : sizT P t = some s) (h : partV P t X o s = some v) (w : World) : (part t X o).run P w = .ok v w := by
 unfold partV at h
 unfold part
 split at h
 ·rename_i ha
  simp only [Option.some.injEq] at h; subst h
  simp [run_isAgg' ha, run_sizeOf' hs]
 ·rename_i ha
  simp only [Sem.run_bind, run_isAgg' ha, Result.andThen_ok, Bool.false_eq_true, if_false, h, Sem.run_pure]
 ·cases h
theorem extract_extract {X : Array Value} {o s a b : Nat} (h : a + b ≤ s) : (X.extract o (o + s)).extract a (a + b) = X.extract (o + a) (o + a + b) := by
 apply Array.ext_getElem?
 intro i
 simp only [Array.getElem?_extract, Array.size_extract]
 repeat' split
 all_goals first
  | rfl
  | (congr 1; omega)
  | (exfalso; omega)
  | (symm; apply Array.getElem?_eq_none; omega)
  | (apply Array.getElem?_eq_none; omega)
theorem extract_get {X : Array Value} {o s a : Nat} (h : a < s) : (X.extract o (o + s))[a]? = X[o + a]? := by
 rw [Array.getElem?_extract]
 split
 ·rfl
 ·symm; apply Array.getElem?_eq_none; omega
theorem alleq_one {xs ys : List AV} {o k : Nat} {e : Bool} (h : alleq xs ys [(o, k)] = some e) : ∃ a b, xs[o]? = some a ∧ ys[o]? = some b ∧ sceqK k a b = some e := by
 simp only [alleq, Option.bind_eq_some_iff] at h
 obtain ⟨a, ha, b, hb, c, hc, q, hq, h⟩ := h
 simp only [Option.some.injEq] at hq h
 subst hq
 simp only [Bool.and_true] at h
 subst h
 exact ⟨a, b, ha, hb, hc⟩
theorem conA_get {j : Inj} {xs : List AV} {o : Nat} {a : AV} (h : xs[o]? = some a) : (AV.conL j xs).toArray[o]? = some (a.con j) := by
 simp only [List.getElem?_toArray]
 rw [conL_get, h]; rfl
theorem leaf_run {P : Program} {xs ys : List AV} {j : Inj} {w : World} {d : Nat} {t : TypeId} {o k s : Nat} {e : Bool} {dd : TypeDesc} (hu : P.underlying t = some dd)
  (hk : (k = 0 ∧ ∃ kk, dd = .int kk) ∨ (k = 1 ∧ dd = .bool) ∨ (k = 2 ∧ dd = .string)) (he : alleq xs ys [(o, k)] = some e)
  {vx vy : Value} (hx : partV P t (AV.conL j xs).toArray o s = some vx) (hy : partV P t (AV.conL j ys).toArray o s = some vy) :
  (Op.equalIn (d + 1) t vx vy).run P w = .ok e w := by
 obtain ⟨a, b, ha, hb, hc⟩ := alleq_one he
 have hag : aggT P t = some false := by
  unfold aggT; rw [hu]
  rcases hk with ⟨_, kk, rfl⟩ | ⟨_, rfl⟩ | ⟨_, rfl⟩ <;> rfl
 unfold partV at hx hy
 rw [hag] at hx hy
 simp only at hx hy
 rw [conA_get ha] at hx
 rw [conA_get hb] at hy
 simp only [Option.some.injEq] at hx hy
 subst hx; subst hy
 rcases hk with ⟨rfl, kk, rfl⟩ | ⟨rfl, rfl⟩ | ⟨rfl, rfl⟩
 ·cases a <;> cases b <;> simp only [sceqK, reduceCtorEq] at hc
  split at hc
  ·rename_i hkk; subst hkk
   simp only [Option.some.injEq] at hc; subst hc
   exact run_equalIn_int w d t _ kk _ _ hu
  ·cases hc
 ·cases a <;> cases b <;> simp only [sceqK, reduceCtorEq] at hc
  simp only [Option.some.injEq] at hc; subst hc
  exact run_equalIn_bool' w d t _ _ hu
 ·cases a <;> cases b <;> simp only [sceqK, reduceCtorEq] at hc
  simp only [Option.some.injEq] at hc; subst hc
  exact run_equalIn_string w d t _ _ hu
theorem partV_mk {P : Program} {t : TypeId} {X : Array Value} {o s a b : Nat} {v : Value} (hab : a + b ≤ s) (h : partV P t X (o + a) b = some v) (hb : 0 < b ∨ aggT P t = some true) : partV P t (X.extract o (o + s)) a b = some v := by
 unfold partV at h ⊢
 split at h
 ·rw [extract_extract hab]; exact h
 ·rename_i ha
  have h0 : a < s := by
   rcases hb with hb | hb
   ·omega
   ·rw [ha] at hb; cases hb
  rw [extract_get h0]; exact h
 ·cases h
theorem leaves_parts {P : Program} {xs ys : List AV} {j : Inj} {d : Nat} {t : TypeId} {o z : Nat} {L : List (Nat × Nat)} {e : Bool} (hL : leaves P d t o = some L) (hz : sizT P t = some z) (he : alleq xs ys L = some e) :
  (0 < z ∨ aggT P t = some true) ∧ ∃ vx vy, partV P t (AV.conL j xs).toArray o z = some vx ∧ partV P t (AV.conL j ys).toArray o z = some vy := by
 cases d with
 | zero => simp [leaves] at hL
 | succ d =>
  have leaf : ∀ k dd, P.underlying t = some dd → isAggD dd = false → sizT P t = some 1 → alleq xs ys [(o, k)] = some e →
    (0 < z ∨ aggT P t = some true) ∧ ∃ vx vy, partV P t (AV.conL j xs).toArray o z = some vx ∧ partV P t (AV.conL j ys).toArray o z = some vy := by
   intro k dd hu hd h1 he
   obtain ⟨a, b, ha, hb, _⟩ := alleq_one he
   have hag : aggT P t = some false := by unfold aggT; rw [hu, ← hd]; rfl
   rw [hz] at h1
   simp only [Option.some.injEq] at h1
   refine ⟨.inl (by omega), a.con j, b.con j, ?_, ?_⟩
   ·unfold partV; rw [hag]; exact conA_get ha
   ·unfold partV; rw [hag]; exact conA_get hb
  have agg : aggT P t = some true → (0 < z ∨ aggT P t = some true) ∧ ∃ vx vy, partV P t (AV.conL j xs).toArray o z = some vx ∧ partV P t (AV.conL j ys).toArray o z = some vy := by
   intro hag
   refine ⟨.inr hag, .agg ((AV.conL j xs).toArray.extract o (o + z)), .agg ((AV.conL j ys).toArray.extract o (o + z)), ?_, ?_⟩ <;> (unfold partV; rw [hag])
  unfold leaves at hL
  split at hL
  ·rename_i kk hu
   split at hL
   ·simp only [Option.some.injEq] at hL; subst hL; exact leaf _ _ hu rfl ‹_› he
   ·cases hL
  ·rename_i hu
   split at hL
   ·simp only [Option.some.injEq] at hL; subst hL; exact leaf _ _ hu rfl ‹_› he
   ·cases hL
  ·rename_i hu
   split at hL
   ·simp only [Option.some.injEq] at hL; subst hL; exact leaf _ _ hu rfl ‹_› he
   ·cases hL
  ·rename_i fs hu; exact agg (by unfold aggT; rw [hu]; rfl)
  ·rename_i n e hu; exact agg (by unfold aggT; rw [hu]; rfl)
  ·cases hL
def arrEq (d : Nat) (e : TypeId) (z : Nat) (X Y : Array Value) : Nat → Nat → Sem Bool
 | 0, _ => pure true
 | n + 1, i => do
  let a ← part e X (i * z)
  let b ← part e Y (i * z)
  let q ← Op.equalIn d e a b
  if (!q) = true then pure false else arrEq d e z X Y n (i + 1)
theorem run_equalIn_array {P : Program} {w : World} {d n : Nat} {t e : TypeId} {z : Nat} {X Y : Array Value} (hu : P.underlying t = some (.array n e)) (hz : sizT P e = some z) :
  (Op.equalIn (d + 1) t (.agg X) (.agg Y)).run P w = (arrEq d e z X Y n 0).run P w := by
 simp only [Op.equalIn, Sem.run_bind, run_underlying hu, Result.andThen_ok, run_sizeOf' hz]
 rw [Std.Legacy.Range.forIn_eq_forIn_range']
 simp only [Std.Legacy.Range.size, Nat.sub_zero, Nat.add_sub_cancel, Nat.div_one]
 generalize 0 = i
 clear hu
 induction n generalizing i w with
 | zero => simp [arrEq]
 | succ n ih =>
  simp only [List.range'_succ, List.forIn_cons, arrEq, Sem.run_bind]
  generalize (part e X (i * z)).run P w = r1
  cases r1 with
  | ok a w1 =>
   simp only [Result.andThen_ok]
   generalize (part e Y (i * z)).run P w1 = r2
   cases r2 with
   | ok b w2 =>
    simp only [Result.andThen_ok]
    generalize (Op.equalIn d e a b).run P w2 = r3
    cases r3 with
    | ok r w3 =>
     cases r
     ·simp only [Result.andThen_ok, Bool.not_false, if_true, Sem.run_pure]
     ·simp only [Result.andThen_ok, Bool.not_true, Bool.false_eq_true, if_false, Sem.run_pure]
      exact ih (w := w3) (i + 1)
    | halt x w3 => simp [Result.andThen]
   | halt x w2 => simp [Result.andThen]
  | halt x w1 => simp [Result.andThen]
theorem equal_runs {P : Program} {xs ys : List AV} {j : Inj} {w : World} : ∀ (d : Nat) (t : TypeId) (o s : Nat) (L : List (Nat × Nat)) (e : Bool), leaves P d t o = some L → sizT P t = some s → alleq xs ys L = some e →
  ∀ vx vy, partV P t (AV.conL j xs).toArray o s = some vx → partV P t (AV.conL j ys).toArray o s = some vy → (Op.equalIn d t vx vy).run P w = .ok e w := by
 intro d
 induction d with
 | zero => intro t o s L e h; simp [leaves] at h
 | succ d ih =>
  intro t o s L e hL hs he vx vy hx hy
  unfold leaves at hL
  split at hL
  ·rename_i kk hu
   split at hL
   ·simp only [Option.some.injEq] at hL; subst hL
    exact leaf_run hu (.inl ⟨rfl, kk, rfl⟩) he hx hy
   ·cases hL
  ·rename_i hu
   split at hL
   ·simp only [Option.some.injEq] at hL; subst hL
    exact leaf_run hu (.inr (.inl ⟨rfl, rfl⟩)) he hx hy
   ·cases hL
  ·rename_i hu
   split at hL
   ·simp only [Option.some.injEq] at hL; subst hL
    exact leaf_run hu (.inr (.inr ⟨rfl, rfl⟩)) he hx hy
   ·cases hL
  ·rename_i fs hu
   split at hL
   ·cases hL
   ·rename_i hst
    rw [hs] at hL
    simp only [Option.bind_some] at hL
    have hag : aggT P t = some true := by unfold aggT; rw [hu]; rfl
    unfold partV at hx hy
    rw [hag] at hx hy
    simp only [Option.some.injEq] at hx hy
    subst hx; subst hy
    have hfo : P.fieldsOf t = fs := by simp [Program.fieldsOf, hu]
    rw [run_equalIn_struct w d t _ _ (by rw [hfo]; exact hu) (by simpa using hst), hfo]
    generalize fs.toList = fl at hL
    clear hu hfo
    induction fl generalizing L e with
    | nil =>
     simp only [leaves.leavesF, Option.some.injEq] at hL; subst hL
     simp only [alleq, Option.some.injEq] at he; subst he
     simp [Op.eqFields]
    | cons f fr ihf =>
     simp only [leaves.leavesF] at hL
     split at hL
     ·rename_i hn
      simp only [Op.eqFields, hn, ne_eq, not_true, if_false]
      exact ihf L e he hL
     ·rename_i hn
      simp only [Option.bind_eq_some_iff] at hL
      obtain ⟨z, hz, hL⟩ := hL
      split at hL
      ·rename_i hfit
       simp only [Option.bind_eq_some_iff, Option.map_eq_some_iff] at hL
       obtain ⟨l1, h1, l2, h2, rfl⟩ := hL
       obtain ⟨e1, e2, g1, g2, rfl⟩ := alleq_append he
       obtain ⟨hz0, ux, uy, px, py⟩ := leaves_parts (j := j) h1 hz g1
       have r1 := run_part' hz (partV_mk hfit px hz0) w
       have r2 := run_part' hz (partV_mk hfit py hz0) w
       have r3 := ih f.type (o + f.offset) z l1 e1 h1 hz g1 ux uy px py
       have r4 := ihf l2 e2 g2 h2
       simp only [Op.eqFields, hn, ne_eq, not_false_eq_true, if_true, Sem.run_bind, r1, r2, r3, Result.andThen_ok]
       cases e1 with
       | true => simpa using r4
       | false => simp
      ·cases hL
  ·rename_i n et hu
   rw [hs] at hL
   simp only [Option.bind_some, Option.bind_eq_some_iff] at hL
   obtain ⟨z, hz, hL⟩ := hL
   split at hL
   ·rename_i hfit
    have hag : aggT P t = some true := by unfold aggT; rw [hu]; rfl
    unfold partV at hx hy
    rw [hag] at hx hy
    simp only [Option.some.injEq] at hx hy
    subst hx; subst hy
    rw [run_equalIn_array hu hz]
    have key : ∀ (m i : Nat) (L : List (Nat × Nat)) (e : Bool), i + m ≤ n → leaves.leavesA P d et z o m i = some L → alleq xs ys L = some e →
      (arrEq d et z ((AV.conL j xs).toArray.extract o (o + s)) ((AV.conL j ys).toArray.extract o (o + s)) m i).run P w = .ok e w := by
     intro m
     induction m with
     | zero =>
      intro i L e _ hL he
      simp only [leaves.leavesA, Option.some.injEq] at hL; subst hL
      simp only [alleq, Option.some.injEq] at he; subst he
      simp [arrEq]
     | succ m ihm =>
      intro i L e him hL he
      simp only [leaves.leavesA, Option.bind_eq_some_iff, Option.map_eq_some_iff] at hL
      obtain ⟨l1, h1, l2, h2, rfl⟩ := hL
      obtain ⟨e1, e2, g1, g2, rfl⟩ := alleq_append he
      have hfit' : i * z + z ≤ s := by
       have : (i + 1) * z ≤ n * z := Nat.mul_le_mul_right z (by omega)
       rw [Nat.add_mul] at this
       omega
      obtain ⟨hz0, ux, uy, px, py⟩ := leaves_parts (j := j) h1 hz g1
      have r1 := run_part' hz (partV_mk hfit' px hz0) w
      have r2 := run_part' hz (partV_mk hfit' py hz0) w
      have r3 := ih et (o + i * z) z l1 e1 h1 hz g1 ux uy px py
      have r4 := ihm (i + 1) l2 e2 (by omega) h2 g2
      simp only [arrEq, Sem.run_bind, r1, r2, r3, Result.andThen_ok]
      cases e1 with
      | true => simpa using r4
      | false => simp
    exact key n 0 L e (by omega) hL he
   ·cases hL
  ·cases hL
def lvF (P : Program) (rec : TypeId → Nat → Option (List (Nat × Nat))) (s : Nat) : List Field → Nat → Option (List (Nat × Nat))
 | [], _ => some []
 | f :: fs, o => if f.name = "_" then lvF P rec s fs o else (sizT P f.type).bind fun z => if f.offset + z ≤ s then (rec f.type (o + f.offset)).bind fun l => (lvF P rec s fs o).map (l ++ ·) else none
def lvA (rec : Nat → Option (List (Nat × Nat))) (z o : Nat) : Nat → Nat → Option (List (Nat × Nat))
 | 0, _ => some []
 | n + 1, i => (rec (o + i * z)).bind fun l => (lvA rec z o n (i + 1)).map (l ++ ·)
def leavesS (P : Program) : Nat → TypeId → Nat → Option (List (Nat × Nat))
 | 0, _, _ => none
 | d + 1, t, o =>
  match P.underlying t with
  | some (.int _) => if sizT P t = some 1 then some [(o, 0)] else none
  | some .bool => if sizT P t = some 1 then some [(o, 1)] else none
  | some .string => if sizT P t = some 1 then some [(o, 2)] else none
  | some (.struct fs) => if P.stoodInHeld t then none else (sizT P t).bind fun s => lvF P (leavesS P d) s fs.toList o
  | some (.array n e) => (sizT P t).bind fun s => (sizT P e).bind fun z => if n * z ≤ s then lvA (leavesS P d e) z o n 0 else none
  | _ => none
theorem leavesS_eq (P : Program) : ∀ (d : Nat) (t : TypeId) (o : Nat), leavesS P d t o = leaves P d t o
 | 0, _, _ => by simp only [leavesS, leaves]
 | d + 1, t, o => by
  have hF : ∀ (s : Nat) (fs : List Field) (o : Nat), lvF P (leavesS P d) s fs o = leaves.leavesF P d s fs o := by
   intro s fs
   induction fs with
   | nil => intro o; simp only [lvF, leaves.leavesF]
   | cons f fs ih => intro o; simp only [lvF, leaves.leavesF, ih, leavesS_eq P d]
  have hA : ∀ (e : TypeId) (z o n i : Nat), lvA (leavesS P d e) z o n i = leaves.leavesA P d e z o n i := by
   intro e z o n
   induction n with
   | zero => intro i; simp only [lvA, leaves.leavesA]
   | succ n ih => intro i; simp only [lvA, leaves.leavesA, ih, leavesS_eq P d]
  unfold leavesS leaves
  simp only [hF, hA]
end Go.AX
end
section
namespace Go.AX
open Go
def isConstO : Operand → Bool
 | .const _ => true
 | _ => false
def resOO (nt : Nat) : Option Operand → Option (Option Opd)
 | none => some none
 | some x => (resO nt x).map some
def resL (nt : Nat) : List Operand → Option (List Opd)
 | [] => some []
 | x :: r => (resO nt x).bind fun a => (resL nt r).map (a :: ·)
def places (P : Program) (t : TypeId) : Option (Nat → Option (Nat × Nat)) :=
 match P.underlying t with
 | some (.struct fs) => (fs.toList.mapM fun f => (P.info? f.type).map fun i => (f.offset, i.size)).map fun l i => l[i]?
 | some (.array _ e) => (P.info? e).map fun ie i => some (i * ie.size, ie.size)
 | _ => none
def resParts (nt : Nat) (pl : Nat → Option (Nat × Nat)) : List (Nat × Operand) → Option (List Part)
 | [] => some []
 | p :: r => (pl p.1).bind fun on => (resO nt p.2).bind fun x => (resParts nt pl r).map (⟨on.1, on.2, x⟩ :: ·)
def fieldT (P : Program) (t : TypeId) (i : Nat) : Option Field :=
 match P.underlying t with
 | some (.struct fs) => fs[i]?
 | _ => none
def isIface (P : Program) (t : TypeId) : Bool :=
 match P.underlying t with
 | some (.interface _) => true
 | _ => false
def eqT (P : Program) (t : TypeId) : EqT :=
 match P.underlying t with
 | some .bool => .bo
 | some (.pointer _) => .pt
 | some (.interface _) => .ic
 | some (.slice _) => .sl
 | some (.map _ _) => .mp
 | some (.func _ _ _) => .fn
 | some (.struct _) | some (.array _ _) => if P.eqGuardType P.depth t then .no else match sizT P t, leavesS P 10000 t 0 with | some s, some l => .ag s l | _, _ => .no
 | _ => .no
def isU8 (P : Program) (t : TypeId) : Bool :=
 match P.underlying t with
 | some (.int .u8) => true
 | _ => false
def resCall (P : Program) (nt : Nat) (c : Call) : Option VOp :=
 match c.callee with
 | .builtin .len =>
  match c.argTypes[0]?, c.args.toList with
  | some t, [x] =>
   match P.underlying t with
   | some .string => (resO nt x).map (.len 0)
   | some (.slice _) => (resO nt x).map (.len 1)
   | some (.map _ _) => (resO nt x).map (.len 2)
   | some (.array n _) => some (.lenk n)
   | some (.pointer a) => match P.underlying a with | some (.array n _) => some (.lenk n) | _ => none
   | _ => none
  | _, _ => none
 | .builtin .cap =>
  match c.argTypes[0]?, c.args.toList with
  | some t, [x] => match P.underlying t with | some (.slice _) => (resO nt x).map .cap | _ => none
  | _, _ => none
 | .builtin .min => (resL nt c.args.toList).map (.mm false)
 | .builtin .max => (resL nt c.args.toList).map (.mm true)
 | .builtin .append =>
  match c.argTypes.toList, c.args.toList with
  | [t, u], [s, x] =>
   match P.underlying t, P.underlying u with
   | some (.slice e), some (.slice _) =>
    (P.info? e).bind fun i => if 0 < i.size ∧ 0 < i.bytes ∧ (zerT P e).map List.length = some i.size then (resO nt s).bind fun s => (resO nt x).map fun x => .app i.size i.bytes s x else none
   | some (.slice e), some (.int _) =>
    (P.info? e).bind fun i => (zerT P e).bind fun z => if 0 < i.size ∧ 0 < i.bytes ∧ z.length = i.size then (resO nt s).bind fun s => (resO nt x).map fun x => .appn i.size i.bytes z s x else none
   | _, _ => none
  | _, _ => none
 | .builtin .copy =>
  match c.argTypes[0]?, c.args.toList with
  | some t, [d, s] =>
   match P.underlying t with
   | some (.slice e) => (sizT P e).bind fun n => if 0 < n then (resO nt d).bind fun d => (resO nt s).map fun s => .cpy n d s else none
   | _ => none
  | _, _ => none
 | _ => none
def mapT (P : Program) (t : TypeId) : Option AV :=
 match P.underlying t with
 | some (.map k e) => match P.underlying k with | some (.int _) => (P.info? e).bind fun i => i.zero.bind absV | _ => none
 | _ => none
def resV (P : Program) (nt : Nat) (o : Oper) : Option VOp :=
 match o.op with
 | .move x => (resO nt x).map .mv
 | .assign x => (resO nt x).map .mv
 | .pick c a b => (resO nt c).bind fun c => (resO nt a).bind fun a => (resO nt b).map fun b => .pick c a b
 | .alloc e => (zerT P e).map .alloc
 | .box _ x => (resO nt x).map .box
 | .build t ps => (places P t).bind fun pl => (zerT P t).bind fun z => (resParts nt pl ps.toList).map fun q => .bld z q
 | .buildSlice t n ps =>
  match P.underlying t with
  | some (.slice e) => (sizT P e).bind fun s => if n * s ≤ 2 ^ 24 ∧ 0 < s then (zerT P e).bind fun z => if z.length = s then (resParts nt (fun i => some (i * s, s)) ps.toList).map fun q => .bsl n (List.replicate n z).flatten q else none else none
  | _ => none
 | .load t x => (aggT P t).bind fun a => (sizT P t).bind fun n => (resO nt x).map fun x => if a then .ld n x else .ld1 x
 | .store t a x => (sizT P t).bind fun n => (resO nt a).bind fun a => (resO nt x).map fun x => .sto n a x
 | .nilCheck x => (resO nt x).map .nilc
 | .binOp op t x y _ => (resO nt x).bind fun x' => (resO nt y).map fun y' =>
   .bin op (eqT P t) (isConstO x || isConstO y) x' y'
 | .unOp op _ x => (resO nt x).map (.un op)
 | .convert s d x =>
  match P.underlying s, P.underlying d with
  | some (.int _), some (.int k) => (resO nt x).map (.cvi k)
  | some (.slice _), some (.slice e) => if s = d ∧ isU8 P e = true then (resO nt x).map .cvsame else none
  | some (.slice e), some .string => if isU8 P e = true then (resO nt x).map .b2s else none
  | some .string, some (.slice e) => if isU8 P e = true then (resO nt x).map .s2b else none
  | _, _ => none
 | .makeInterface t x => match P.underlying t with | some (.interface _) => none | none => none | _ => (resO nt x).map (.mkif t)
 | .makeFunc f a c => (resL nt a.toList).bind fun a => (resL nt c.toList).map fun c => .mkfn f a c
 | .makeSlice t l c =>
  match P.underlying t with
  | some (.slice e) => (P.info? e).bind fun i => (zerT P e).bind fun z => if z.length = i.size then (resO nt l).bind fun l => (resO nt c).map fun c => .mks i.bytes z l c else none
  | _ => none
 | .slice t x lo hi mx =>
  match P.underlying t with
  | some (.slice e) => (sizT P e).bind fun s => (resO nt x).bind fun x => (resOO nt lo).bind fun lo => (resOO nt hi).bind fun hi => (resOO nt mx).bind fun mx => if mx.isSome && hi.isNone then none else some (.slc s x lo hi mx)
  | some .string => if mx.isSome then none else (resO nt x).bind fun x => (resOO nt lo).bind fun lo => (resOO nt hi).map fun hi => .slcs x lo hi
  | some (.array n e) => (sizT P e).bind fun s => (resO nt x).bind fun x => (resOO nt lo).bind fun lo => (resOO nt hi).bind fun hi => (resOO nt mx).bind fun mx => if mx.isSome && hi.isNone then none else some (.slca n s x lo hi mx)
  | _ => none
 | .fieldAddr t x i => (fieldT P t i).bind fun f => (sizT P f.type).bind fun s => if s = 0 then none else (resO nt x).map (.fa f.offset)
 | .field t x i => (fieldT P t i).bind fun f => (sizT P f.type).bind fun s => (aggT P f.type).bind fun a => (resO nt x).map (.fld f.offset s a)
 | .indexAddr t x i =>
  match P.underlying t with
  | some (.slice e) => (sizT P e).bind fun s => (resO nt x).bind fun x => (resO nt i).map fun i => .ia s x i
  | some (.array n e) => (sizT P e).bind fun s => (resO nt x).bind fun x => (resO nt i).map fun i => .iaa n s x i
  | _ => none
 | .index t x i =>
  match P.underlying t with
  | some (.array n e) => (sizT P e).bind fun s => (aggT P e).bind fun a => (resO nt x).bind fun x => (resO nt i).map fun i => .ix n s a x i
  | some .string => (resO nt x).bind fun x => (resO nt i).map fun i => .ixs x i
  | _ => none
 | .extract x i => (resO nt x).map fun x => .ext x i
 | .typeAssert x _ t ok =>
  match P.underlying t with
  | none => none
  | some (.interface _) => none
  | some _ => if ok then ((P.info? t).bind fun i => i.zero.bind absV).bind fun z => (resO nt x).map (.ta t z) else none
 | .makeMap t r => if r.isNone = true then (match P.underlying t with | some (.map _ _) => some .mkm | _ => none) else none
 | .lookup t x i ok => (mapT P t).bind fun z => (resO nt x).bind fun x => (resO nt i).map fun i => .lkp z ok x i
 | .mapEntry t m k => (mapT P t).bind fun z => (resO nt m).bind fun m => (resO nt k).map fun k => .ment z m k
 | .entryStore t m s x => (resO nt m).bind fun m => (resO nt s).bind fun s => (resO nt x).map fun x => .mup false m s x
 | .mapUpdate t m k x => (mapT P t).bind fun _ => (resO nt m).bind fun m => (resO nt k).bind fun k => (resO nt x).map fun x => .mup true m k x
 | .call c => resCall P nt c
 | _ => none
theorem foldl_writeAll (off : Nat) : ∀ (vs : List Value) (k : Nat) (cells : Array Value), (vs.zipIdx k).foldl (fun cs (x : Value × Nat) => cs.setIfInBounds (off + x.2) x.1) cells = writeAll cells (off + k) vs
 | [], _, _ => rfl
 | v :: r, k, cells => by
  simp only [List.zipIdx_cons, List.foldl_cons, writeAll]
  exact foldl_writeAll off r (k + 1) _
theorem writeAll_splice {j : Inj} {cs m : List AV} {o : Nat} (h : o + m.length ≤ cs.length) : writeAll (AV.conL j cs).toArray o (AV.conL j m) = (AV.conL j (splice cs o m)).toArray := by
 apply Array.ext_getElem?
 intro i
 rw [writeAll_get _ _ _ _ (by simp [conL_length]; omega)]
 simp only [List.getElem?_toArray, conL_length]
 rw [conL_get, conL_get, conL_get]
 simp only [splice]
 by_cases h1 : i < o
 ·rw [if_neg (by omega), List.getElem?_append_left (by simp; omega), List.getElem?_take_of_lt h1]
 ·have hmin : min o cs.length = o := by omega
  rw [List.getElem?_append_right (by simp; omega)]
  simp only [List.length_take, hmin]
  by_cases h2 : i < o + m.length
  ·rw [if_pos (by omega), List.getElem?_append_left (by omega)]
  ·rw [if_neg (by omega), List.getElem?_append_right (by omega), List.getElem?_drop, show o + m.length + (i - o - m.length) = i by omega]
theorem okL_splice {D : Nat → Prop} {l m : List AV} {o : Nat} (hl : AV.okL D l) (hm : AV.okL D m) : AV.okL D (splice l o m) := by
 rw [okL_iff] at *
 intro v hv
 simp only [splice, List.mem_append] at hv
 rcases hv with hv | hv | hv
 ·exact hl v (List.mem_of_mem_take hv)
 ·exact hm v hv
 ·exact hl v (List.mem_of_mem_drop hv)
theorem scL_splice {l m : List AV} {o : Nat} (hl : AV.scL l = true) (hm : AV.scL m = true) : AV.scL (splice l o m) = true := by
 rw [AV.scL, List.all_eq_true] at *
 intro v hv
 simp only [splice, List.mem_append] at hv
 rcases hv with hv | hv | hv
 ·exact hl v (List.mem_of_mem_take hv)
 ·exact hm v hv
 ·exact hl v (List.mem_of_mem_drop hv)
section
variable {P : Program} {base nt : Nat} {D : Nat → Prop} {j : Inj} {H H' : AH} {w : World} {a : Act} {o : Oper} {v : AV} {E : Env}
theorem vfill_run (R : Rel nt D j E a.tmps) {pl pl' : Nat → Option (Nat × Nat)} (hpl : ∀ i, pl' i = pl i) : ∀ (ps : List (Nat × Operand)) (q : List Part) (cs l : List AV), resParts nt pl ps = some q → vfill E cs q = some l → AV.okL D cs → AV.scL cs = true →
  Instr.fill pl' (AV.conL j cs).toArray (ps.map fun p => (p.1, a.eval p.2)) = some (AV.conL j l).toArray ∧ AV.okL D l ∧ AV.scL l = true ∧ l.length = cs.length
 | [], q, cs, l, hq, hl, h1, h2 => by
  simp only [resParts, Option.some.injEq] at hq; subst hq
  simp only [vfill, Option.some.injEq] at hl; subst hl
  exact ⟨by simp [Instr.fill], h1, h2, rfl⟩
 | p :: r, q, cs, l, hq, hl, h1, h2 => by
  simp only [resParts, Option.bind_eq_some_iff, Option.map_eq_some_iff] at hq
  obtain ⟨on, hon, x, hx, q', hq', rfl⟩ := hq
  simp only [vfill, Option.bind_eq_some_iff] at hl
  obtain ⟨m, hm, hl⟩ := hl
  split at hl
  ·rename_i hc
   obtain ⟨hc1, hc2⟩ := hc
   obtain ⟨e1, e2⟩ := R.ev hx
   obtain ⟨c1, c2, c3⟩ := cl_con (j := j) hm e2
   have hlen : (splice cs on.1 m).length = cs.length := splice_length (by omega)
   obtain ⟨g1, g2, g3, g4⟩ := vfill_run R hpl r q' (splice cs on.1 m) l hq' hl (okL_splice h1 c2) (scL_splice h2 c3)
   refine ⟨?_, g2, g3, by omega⟩
   simp only [List.map_cons, Instr.fill, hpl, hon]
   rw [e1, c1]
   simp only [List.size_toArray, conL_length]
   rw [if_neg (by simp; omega)]
   have hf := foldl_writeAll on.1 (AV.conL j m) 0 (AV.conL j cs).toArray
   simp only [Nat.add_zero] at hf
   have hz : ((AV.conL j m).toArray.zipIdx.foldl (fun cs (x : Value × Nat) => cs.setIfInBounds (on.1 + x.2) x.1) (AV.conL j cs).toArray) = (AV.conL j (splice cs on.1 m)).toArray := by
    rw [← writeAll_splice (by omega), ← hf, ← Array.foldl_toList]
    simp
   rw [hz]
   exact g1
  ·cases hl
theorem snd_mv (R : Rel nt D j E a.tmps) (S : Sim base D j H w) {x : Operand} {x' : Opd} (ho : o.op = .move x ∨ o.op = .assign x) (hx : resO nt x = some x') : Snd P base D j H w a.eval o (ev E x') H := by
 obtain ⟨e1, e2⟩ := R.ev hx
 refine Snd.same S ?_ e2
 rcases ho with ho | ho <;> simp [execOp, ho, e1]
theorem pick_run {c x y : AV} (h : AV.pick c x y = some v) : ∃ b, c = .bo b ∧ v = bif b then x else y := by
 cases c <;> simp only [AV.pick, Option.some.injEq, reduceCtorEq] at h
 exact ⟨_, rfl, h.symm⟩
theorem snd_pick (R : Rel nt D j E a.tmps) (S : Sim base D j H w) {c x y : Operand} {c' x' y' : Opd} (ho : o.op = .pick c x y) (hc : resO nt c = some c') (hx : resO nt x = some x') (hy : resO nt y = some y')
  (h : AV.pick (ev E c') (ev E x') (ev E y') = some v) : Snd P base D j H w a.eval o v H := by
 obtain ⟨c1, c2⟩ := R.ev hc
 obtain ⟨x1, x2⟩ := R.ev hx
 obtain ⟨y1, y2⟩ := R.ev hy
 obtain ⟨b, hb, rfl⟩ := pick_run h
 rw [hb] at c1
 refine Snd.same S ?_ (by cases b <;> simpa)
 cases b <;> simp [execOp, ho, c1, x1, y1, AV.con, asBool]
theorem guard_run {op : BinOp} {t : TypeId} {x y : Operand} {u q : AV} (hni : u = .ni → q = .ni → (isConstO x || isConstO y) = true) (hag : ∀ l m, u = .ag l → q = .ag m → P.eqGuardType P.depth t = false) :
  (eqGuard op t x y (u.con j) (q.con j)).run P w = .ok () w := by
 cases u <;> cases q <;> first
  | (simp [eqGuard, AV.con]; done)
  | skip
 ·have h := hni rfl rfl
  simp only [AV.con]
  cases op <;> cases x <;> cases y <;> simp_all [eqGuard, isConstO]
 ·simp only [AV.con]
  exact run_eqGuard_agg w op t x y _ _ (hag _ _ rfl rfl)
theorem leavesT_run {t : TypeId} {s : Nat} {l : List (Nat × Nat)} {xs ys : List AV} {e : Bool} (hag : aggT P t = some true) (hs : sizT P t = some s) (hl : leaves P 10000 t 0 = some l) (hx : xs.length = s) (hy : ys.length = s) (h : alleq xs ys l = some e) :
  (Op.equal t (.agg (AV.conL j xs).toArray) (.agg (AV.conL j ys).toArray)).run P w = .ok e w := by
 have hp : ∀ zs : List AV, zs.length = s → partV P t (AV.conL j zs).toArray 0 s = some (.agg (AV.conL j zs).toArray) := by
  intro zs hz
  unfold partV
  rw [hag]
  simp only [Option.some.injEq, Value.agg.injEq]
  apply Array.ext'
  simp [← hz, List.take_of_length_le, conL_length]
 exact equal_runs 10000 t 0 s l e hl hs h _ _ (hp xs hx) (hp ys hy)
def flatEq (te : EqT) (u q : AV) : Option Bool := match te with | .ag _ _ => none | _ => veq te true u q
theorem flat_run {t : TypeId} {u q : AV} {e : Bool} (h : flatEq (eqT P t) u q = some e) (d : Nat) : (Op.equalIn (d + 1) t (u.con j) (q.con j)).run P w = .ok e w := by
 have hun : ∀ dd, P.underlying t = some dd → (underlying t).run P w = .ok dd w := fun dd hd => run_underlying hd w
 unfold eqT at h
 split at h
 ·rename_i hd
  simp only [flatEq, veq, if_true] at h
  split at h
  all_goals first
   | (simp only [Option.some.injEq] at h; subst h; simp only [AV.con, Op.equalIn, Sem.run_bind, hun _ hd, Result.andThen_ok, Sem.run_pure, Option.isNone_none, Option.isNone_some])
   | (simp only [Option.some.injEq] at h; subst h; simp [AV.con, Op.equalIn, hun _ hd])
   | cases h
 ·rename_i hd
  simp only [flatEq, veq, if_true] at h
  split at h
  all_goals first
   | (simp only [Option.some.injEq] at h; subst h; simp only [AV.con, Op.equalIn, Sem.run_bind, hun _ hd, Result.andThen_ok, Sem.run_pure, Option.isNone_none, Option.isNone_some])
   | (simp only [Option.some.injEq] at h; subst h; simp [AV.con, Op.equalIn, hun _ hd])
   | cases h
 ·rename_i hd
  simp only [flatEq, veq, if_true] at h
  split at h
  all_goals first
   | (simp only [Option.some.injEq] at h; subst h; simp only [AV.con, Op.equalIn, Sem.run_bind, hun _ hd, Result.andThen_ok, Sem.run_pure, Option.isNone_none, Option.isNone_some])
   | (simp only [Option.some.injEq] at h; subst h; simp [AV.con, Op.equalIn, hun _ hd])
   | cases h
 ·rename_i hd
  simp only [flatEq, veq, if_true] at h
  split at h
  all_goals first
   | (simp only [Option.some.injEq] at h; subst h; simp only [AV.con, Op.equalIn, Sem.run_bind, hun _ hd, Result.andThen_ok, Sem.run_pure, Option.isNone_none, Option.isNone_some])
   | (simp only [Option.some.injEq] at h; subst h; simp [AV.con, Op.equalIn, hun _ hd])
   | cases h
 ·rename_i hd
  simp only [flatEq, veq, if_true] at h
  split at h
  all_goals first
   | (simp only [Option.some.injEq] at h; subst h; simp only [AV.con, Op.equalIn, Sem.run_bind, hun _ hd, Result.andThen_ok, Sem.run_pure, Option.isNone_none, Option.isNone_some])
   | (simp only [Option.some.injEq] at h; subst h; simp [AV.con, Op.equalIn, hun _ hd])
   | cases h
 ·rename_i hd
  simp only [flatEq, veq, if_true] at h
  split at h
  all_goals first
   | (simp only [Option.some.injEq] at h; subst h; simp only [AV.con, Op.equalIn, Sem.run_bind, hun _ hd, Result.andThen_ok, Sem.run_pure, Option.isNone_none, Option.isNone_some])
   | (simp only [Option.some.injEq] at h; subst h; simp [AV.con, Op.equalIn, hun _ hd])
   | cases h
 ·rename_i hd
  split at h
  ·simp [flatEq, veq] at h
  ·split at h <;> simp [flatEq, veq] at h
 ·rename_i hd
  split at h
  ·simp [flatEq, veq] at h
  ·split at h <;> simp [flatEq, veq] at h
 ·simp [flatEq, veq] at h
theorem veq_run {cn : Bool} {t : TypeId} {x y : Operand} {u q : AV} {e : Bool} (hcn : cn = (isConstO x || isConstO y)) (h : veq (eqT P t) cn u q = some e) (op : BinOp) :
   (Op.equal t (u.con j) (q.con j)).run P w = .ok e w ∧ (eqGuard op t x y (u.con j) (q.con j)).run P w = .ok () w := by
 have flat : flatEq (eqT P t) u q = some e → (∀ l m, u = .ag l → q = .ag m → False) → (Op.equal t (u.con j) (q.con j)).run P w = .ok e w ∧ (eqGuard op t x y (u.con j) (q.con j)).run P w = .ok () w := by
   intro hf hna
   refine ⟨flat_run hf 9999, guard_run ?_ fun l m h1 h2 => (hna l m h1 h2).elim⟩
   rintro rfl rfl
   cases hte : eqT P t <;> rw [hte] at h <;> simp only [veq, reduceCtorEq] at h
   split at h
   · rename_i hc; rw [← hcn]; exact hc
   · cases h
 cases hte : eqT P t with
 | ag s l =>
   rw [hte] at h
   cases u <;> cases q <;> simp only [veq, reduceCtorEq] at h
   split at h
   · rename_i hc
     have hx : aggT P t = some true ∧ sizT P t = some s ∧ leaves P 10000 t 0 = some l ∧ P.eqGuardType P.depth t = false := by
       unfold eqT at hte
       split at hte <;> try (cases hte; done)
       all_goals
         rename_i hd
         split at hte
         · cases hte
         · rename_i hg
           split at hte
           · rename_i s' l' hs hl
             simp only [EqT.ag.injEq] at hte
             obtain ⟨rfl, rfl⟩ := hte
             exact ⟨by unfold aggT; rw [hd]; rfl, hs, by rw [← leavesS_eq]; exact hl, by simpa using hg⟩
           · cases hte
     exact ⟨leavesT_run hx.1 hx.2.1 hx.2.2.1 hc.1 hc.2 h, guard_run (by simp) fun _ _ _ _ => hx.2.2.2⟩
   · cases h
 | _ =>
   rw [hte] at h
   refine flat ?_ ?_
   · rw [hte]
     simp only [flatEq]
     simp only [veq] at h ⊢
     first
       | exact h
       | (split at h <;> first
            | exact h
            | (split at h
               · simpa using h
               · cases h)
            | simpa using h
            | cases h)
   · rintro l m rfl rfl
     simp [veq] at h
def twoOf : AV → AV → Bool
 | .it _ _, .it _ _ => true
 | .st _, .st _ => true
 | _, _ => false
theorem vbin_eq {op : BinOp} {te : EqT} {cn : Bool} {u q : AV} (ht : twoOf u q = false) (h : vbin op te cn u q = some v) : ∃ e, veq te cn u q = some e ∧ (op = .eql ∧ v = .bo e ∨ op = .neq ∧ v = .bo (!e)) := by
 cases u <;> cases q <;> simp only [twoOf, Bool.true_eq_false] at ht <;> (cases op <;> simp only [vbin, Option.map_eq_some_iff, reduceCtorEq] at h <;> obtain ⟨e, he, rfl⟩ := h <;> first | exact ⟨e, he, .inl ⟨rfl, rfl⟩⟩ | exact ⟨e, he, .inr ⟨rfl, rfl⟩⟩)
theorem binOp_eql {t : TypeId} {u q : AV} {e : Bool} (ht : twoOf u q = false) (hfl : ∀ k x, u ≠ .fl k x) (r : (Op.equal t (u.con j) (q.con j)).run P w = .ok e w) : (binOp .eql t (u.con j) (q.con j)).run P w = .ok (.bool e) w := by
 cases u <;> cases q <;> simp only [twoOf, Bool.true_eq_false] at ht <;> first
   | exact absurd rfl (hfl _ _)
   | (simp only [AV.con] at r ⊢
      refine (congrArg (fun s => Sem.run P s w) (show binOp .eql t _ _ = (do pure (Value.bool (← Op.equal t _ _))) from rfl)).trans ?_
      simp only [Sem.run_bind, r, Result.andThen_ok, Sem.run_pure])
theorem binOp_neq {t : TypeId} {u q : AV} {e : Bool} (ht : twoOf u q = false) (hfl : ∀ k x, u ≠ .fl k x) (r : (Op.equal t (u.con j) (q.con j)).run P w = .ok e w) : (binOp .neq t (u.con j) (q.con j)).run P w = .ok (.bool (!e)) w := by
 cases u <;> cases q <;> simp only [twoOf, Bool.true_eq_false] at ht <;> first
   | exact absurd rfl (hfl _ _)
   | (simp only [AV.con] at r ⊢
      refine (congrArg (fun s => Sem.run P s w) (show binOp .neq t _ _ = (do pure (Value.bool (!(← Op.equal t _ _)))) from rfl)).trans ?_
      simp only [Sem.run_bind, r, Result.andThen_ok, Sem.run_pure])
theorem veq_nofl {te : EqT} {cn : Bool} {u q : AV} {e : Bool} (h : veq te cn u q = some e) : ∀ k x, u ≠ .fl k x := by
 rintro k x rfl
 cases te <;> simp [veq] at h
theorem snd_bin (R : Rel nt D j E a.tmps) (S : Sim base D j H w) {op : BinOp} {t t' : TypeId} {x y : Operand} {x' y' : Opd} (ho : o.op = .binOp op t x y t') (hx : resO nt x = some x') (hy : resO nt y = some y')
   (h : vbin op (eqT P t) (isConstO x || isConstO y) (ev E x') (ev E y') = some v) : Snd P base D j H w a.eval o v H := by
 obtain ⟨x1, x2⟩ := R.ev hx
 obtain ⟨y1, y2⟩ := R.ev hy
 generalize ev E x' = u at *
 generalize ev E y' = q at *
 have fin : ∀ (vv : AV), vv.ok D → (eqGuard op t x y (u.con j) (q.con j)).run P w = .ok () w → (binOp op t (u.con j) (q.con j)).run P w = .ok (vv.con j) w → Snd P base D j H w a.eval o vv H := by
   intro vv hv g r
   refine Snd.same S ?_ hv
   simp [execOp, ho, x1, y1, g, r]
 by_cases ht : twoOf u q = true
 · cases u <;> cases q <;> simp only [twoOf, reduceCtorEq, Bool.false_eq_true] at ht
   · rename_i k m k' n
     have g : (eqGuard op t x y ((AV.it k m).con j) ((AV.it k' n).con j)).run P w = .ok () w := guard_run (by simp) (by simp)
     simp only [vbin] at h
     split at h
     · rename_i hs
       refine fin v ?_ g (shBin_run hs h t)
       unfold shBin at h
       split at h
       · cases h
       · cases op <;> simp only [Option.some.injEq, reduceCtorEq] at h <;> subst h <;> simp [AV.ok]
     · rename_i hs
       split at h
       · rename_i hk
         subst hk
         refine fin v ?_ g (intBin_run (by simpa using hs) h t)
         cases op <;> simp only [intBin, Option.some.injEq, reduceCtorEq] at h <;> first
           | (subst h; simp [AV.ok]; done)
           | (split at h
              · cases h
              · simp only [Option.some.injEq] at h; subst h; simp [AV.ok])
       · cases h
   · rename_i m n
     have g : (eqGuard op t x y ((AV.st m).con j) ((AV.st n).con j)).run P w = .ok () w := guard_run (by simp) (by simp)
     cases op <;> simp only [vbin, Option.some.injEq, reduceCtorEq] at h <;> subst h <;> refine fin _ (by simp [AV.ok]) g ?_ <;> simp [binOp, AV.con, Op.stringOp]
 · have ht' : twoOf u q = false := by simpa using ht
   obtain ⟨e, he, hv⟩ := vbin_eq ht' h
   obtain ⟨r, g⟩ := veq_run (P := P) (j := j) (w := w) rfl he op
   rcases hv with ⟨rfl, rfl⟩ | ⟨rfl, rfl⟩
   · exact fin _ (by simp [AV.ok]) g (by simpa [AV.con] using binOp_eql ht' (veq_nofl he) r)
   · exact fin _ (by simp [AV.ok]) g (by simpa [AV.con] using binOp_neq ht' (veq_nofl he) r)
theorem snd_un (R : Rel nt D j E a.tmps) (S : Sim base D j H w) {op : UnOp} {t : TypeId} {x : Operand} {x' : Opd} (ho : o.op = .unOp op t x) (hx : resO nt x = some x') (h : vun op (ev E x') = some v) : Snd P base D j H w a.eval o v H := by
 obtain ⟨x1, x2⟩ := R.ev hx
 generalize ev E x' = u at *
 cases u <;> simp only [vun, reduceCtorEq] at h <;> cases op <;> simp only [Option.some.injEq, reduceCtorEq] at h <;> subst h <;> refine Snd.same S ?_ (by simp [AV.ok]) <;> simp [execOp, ho, x1, AV.con, Op.unary, Op.intArith, Op.intBits, Go.bits]
theorem snd_cvi (R : Rel nt D j E a.tmps) (S : Sim base D j H w) {s d : TypeId} {x : Operand} {x' : Opd} {k k' : IntKind} (ho : o.op = .convert s d x) (hs : P.underlying s = some (.int k')) (hd : P.underlying d = some (.int k)) (hx : resO nt x = some x') (h : vcvi k (ev E x') = some v) :
  Snd P base D j H w a.eval o v H := by
 obtain ⟨x1, x2⟩ := R.ev hx
 generalize ev E x' = u at *
 cases u <;> simp only [vcvi, Option.some.injEq, reduceCtorEq] at h
 subst h
 refine Snd.same S ?_ (by simp [AV.ok])
 simp [execOp, ho, convert, run_underlying hs, run_underlying hd, x1, AV.con, Conv.intToInt]
theorem snd_mkif (R : Rel nt D j E a.tmps) (S : Sim base D j H w) {t : TypeId} {x : Operand} {x' : Opd} {dd : TypeDesc} (ho : o.op = .makeInterface t x) (ht : P.underlying t = some dd) (hn : ∀ ms, dd ≠ .interface ms) (hx : resO nt x = some x') :
  Snd P base D j H w a.eval o (.fc t (ev E x')) H := by
 obtain ⟨x1, x2⟩ := R.ev hx
 refine Snd.same S ?_ (by simpa [AV.ok] using x2)
 cases dd <;> first
  | exact absurd rfl (hn _)
  | simp [execOp, ho, Instr.makeInterface, run_underlying ht, x1, AV.con]
theorem resL_run (R : Rel nt D j E a.tmps) : ∀ {xs : List Operand} {ys : List Opd}, resL nt xs = some ys → xs.map a.eval = AV.conL j (ys.map (ev E)) ∧ AV.okL D (ys.map (ev E))
 | [], ys, h => by simp only [resL, Option.some.injEq] at h; subst h; exact ⟨rfl, by simp only [List.map_nil, AV.okL]⟩
 | x :: r, ys, h => by
  simp only [resL, Option.bind_eq_some_iff, Option.map_eq_some_iff] at h
  obtain ⟨x', hx, ys', hy, rfl⟩ := h
  obtain ⟨x1, x2⟩ := R.ev hx
  obtain ⟨r1, r2⟩ := resL_run R hy
  exact ⟨by simp only [List.map_cons, AV.conL, x1, r1], x2, r2⟩
theorem snd_mkfn (R : Rel nt D j E a.tmps) (S : Sim base D j H w) {f : Fn} {p c : Array Operand} {p' c' : List Opd} (ho : o.op = .makeFunc f p c) (hp : resL nt p.toList = some p') (hc : resL nt c.toList = some c') :
  Snd P base D j H w a.eval o (.fn f (p'.map (ev E)) (c'.map (ev E))) H := by
 obtain ⟨p1, p2⟩ := resL_run R hp
 obtain ⟨c1, c2⟩ := resL_run R hc
 refine Snd.same S ?_ ⟨p2, c2⟩
 have e : ∀ (q : Array Operand) (l : List Value), q.toList.map a.eval = l → q.map a.eval = l.toArray := fun q l hq => by
  apply Array.ext'; simpa using hq
 simp [execOp, ho, Instr.makeFunc, AV.con, e _ _ p1, e _ _ c1]
theorem snd_ext (R : Rel nt D j E a.tmps) (S : Sim base D j H w) {i : Nat} {x : Operand} {x' : Opd} (ho : o.op = .extract x i) (hx : resO nt x = some x') (h : vext i (ev E x') = some v) : Snd P base D j H w a.eval o v H := by
 obtain ⟨x1, x2⟩ := R.ev hx
 generalize ev E x' = u at *
 cases u <;> simp only [vext, reduceCtorEq] at h
 rename_i l
 refine Snd.same S ?_ (okL_iff.1 x2 v (List.mem_of_getElem? h))
 have hg : (AV.conL j l).toArray[i]? = some (v.con j) := conA_get h
 simp [execOp, ho, Instr.extract, x1, AV.con] at hg ⊢
 simp [hg]
theorem apart_run {t : TypeId} {n off : Nat} {ag : Bool} {l : List AV} (hs : sizT P t = some n) (ha : aggT P t = some ag) (h : apart l off n ag = some v) (hl : AV.okL D l) (hsc : AV.scL l = true) :
  (part t (AV.conL j l).toArray off).run P w = .ok (v.con j) w ∧ v.ok D := by
 cases ag with
 | true =>
  simp only [apart] at h
  split at h
  ·rename_i hle
   simp only [Option.some.injEq] at h; subst h
   refine ⟨?_, ?_, ?_⟩
   ·refine run_part' (o := off) (s := n) hs ?_ w
    unfold partV; rw [ha]
    simp only [AV.con, Option.some.injEq, Value.agg.injEq]
    apply Array.ext'
    simp [conL_eq, List.map_take, List.map_drop]
   ·rw [okL_iff] at hl ⊢
    exact fun x hx => hl x (List.mem_of_mem_drop (List.mem_of_mem_take hx))
   ·rw [AV.scL, List.all_eq_true] at hsc ⊢
    exact fun x hx => hsc x (List.mem_of_mem_drop (List.mem_of_mem_take hx))
  ·cases h
 | false =>
  simp only [apart] at h
  refine ⟨run_part' (o := off) (s := n) hs ?_ w, okL_iff.1 hl v (List.mem_of_getElem? h)⟩
  unfold partV; rw [ha]
  exact conA_get h
theorem snd_fld (R : Rel nt D j E a.tmps) (S : Sim base D j H w) {t : TypeId} {i n : Nat} {ag : Bool} {f : Field} {x : Operand} {x' : Opd} (ho : o.op = .field t x i) (hf : fieldT P t i = some f) (hs : sizT P f.type = some n) (ha : aggT P f.type = some ag)
  (hx : resO nt x = some x') (h : vfld f.offset n ag (ev E x') = some v) : Snd P base D j H w a.eval o v H := by
 obtain ⟨x1, x2⟩ := R.ev hx
 generalize ev E x' = u at *
 cases u <;> simp only [vfld, reduceCtorEq] at h
 rename_i l
 obtain ⟨r1, r2⟩ := apart_run (P := P) (j := j) (w := w) hs ha h x2.1 x2.2
 unfold fieldT at hf
 split at hf
 ·rename_i fs hu
  refine Snd.same S ?_ r2
  simp [execOp, ho, Instr.field, run_underlying hu, x1, AV.con, asAgg, hf] at r1 ⊢
  simp [r1]
 ·cases hf
theorem snd_ix (R : Rel nt D j E a.tmps) (S : Sim base D j H w) {t e : TypeId} {n s : Nat} {ag : Bool} {x i : Operand} {x' i' : Opd} (ho : o.op = .index t x i) (hu : P.underlying t = some (.array n e)) (hs : sizT P e = some s) (ha : aggT P e = some ag)
  (hx : resO nt x = some x') (hi : resO nt i = some i') (h : vix n s ag (ev E x') (ev E i') = some v) : Snd P base D j H w a.eval o v H := by
 obtain ⟨x1, x2⟩ := R.ev hx
 obtain ⟨i1, i2⟩ := R.ev hi
 generalize ev E x' = u at *
 generalize ev E i' = q at *
 cases u <;> cases q <;> simp only [vix, reduceCtorEq] at h
 rename_i l k p
 split at h
 ·rename_i hb
  obtain ⟨r1, r2⟩ := apart_run (P := P) (j := j) (w := w) hs ha h x2.1 x2.2
  refine Snd.same S ?_ r2
  simp [execOp, ho, Instr.index, run_underlying hu, x1, i1, AV.con, asIntOf, hb.1, hb.2, run_sizeOf' hs] at r1 ⊢
  simp [r1]
 ·cases h
theorem snd_ixs (R : Rel nt D j E a.tmps) (S : Sim base D j H w) {t : TypeId} {x i : Operand} {x' i' : Opd} (ho : o.op = .index t x i) (hu : P.underlying t = some .string)
  (hx : resO nt x = some x') (hi : resO nt i = some i') (h : vixs (ev E x') (ev E i') = some v) : Snd P base D j H w a.eval o v H := by
 obtain ⟨x1, x2⟩ := R.ev hx
 obtain ⟨i1, i2⟩ := R.ev hi
 generalize ev E x' = u at *
 generalize ev E i' = q at *
 cases u <;> cases q <;> simp only [vixs, reduceCtorEq] at h
 rename_i l k p
 split at h
 ·rename_i hb
  simp only [Option.some.injEq] at h; subst h
  refine Snd.same S ?_ (by simp [AV.ok])
  have hg : l[p.toNat]? = some (l[p.toNat]'hb.2) := by simp [hb.2]
  simp [execOp, ho, Instr.index, run_underlying hu, x1, i1, AV.con, asIntOf, hb.1, hg]
 ·cases h
theorem snd_ta (R : Rel nt D j E a.tmps) (S : Sim base D j H w) {t xt : TypeId} {x : Operand} {x' : Opd} {z : AV} {dd : TypeDesc} (ho : o.op = .typeAssert x xt t true) (hu : P.underlying t = some dd) (hn : ∀ ms, dd ≠ .interface ms) (hz : ((P.info? t).bind fun i => i.zero.bind absV) = some z)
  (hx : resO nt x = some x') (h : vta t z (ev E x') = some v) : Snd P base D j H w a.eval o v H := by
 obtain ⟨x1, x2⟩ := R.ev hx
 simp only [Option.bind_eq_some_iff] at hz
 obtain ⟨i, hi, zv, hzv, hz⟩ := hz
 obtain ⟨z1, z2⟩ := absV_con (j := j) (D := D) hz
 have hzero : (zeroValue t).run P w = .ok zv w := by simp [zeroValue, typeInfo, hi, hzv]
 generalize ev E x' = u at *
 cases u <;> simp only [vta, Option.some.injEq, reduceCtorEq] at h
 ·rename_i tt vv
  split at h
  ·rename_i he
   simp only [Option.some.injEq] at h; subst h
   refine Snd.same S ?_ ⟨x2, by simp [AV.ok], by simp only [AV.okL]⟩
   subst he
   cases dd <;> first
    | exact absurd rfl (hn _)
    | simp [execOp, ho, Instr.typeAssert, run_underlying hu, x1, AV.con, AV.conL]
  ·rename_i he
   simp only [Option.some.injEq] at h; subst h
   refine Snd.same S ?_ ⟨z2, by simp [AV.ok], by simp only [AV.okL]⟩
   cases dd <;> first
    | exact absurd rfl (hn _)
    | simp [execOp, ho, Instr.typeAssert, run_underlying hu, x1, AV.con, AV.conL, he, hzero, z1]
 ·subst h
  refine Snd.same S ?_ ⟨z2, by simp [AV.ok], by simp only [AV.okL]⟩
  cases dd <;> first
   | exact absurd rfl (hn _)
   | simp [execOp, ho, Instr.typeAssert, run_underlying hu, x1, AV.con, AV.conL, hzero, z1]
end
end Go.AX
end
section
namespace Go.AX
open Go
section
variable {P : Program} {base nt : Nat} {D : Nat → Prop} {j : Inj} {H H' : AH} {w : World} {a : Act} {o : Oper} {v : AV} {E : Env}
theorem new_row (S : Sim base D j H w) {l : List AV} (hl : AV.okL D l) (hs : AV.scL l = true) (t : TypeId) :
  (newRow t (AV.conL j l).toArray).run P w = .ok ⟨w.heap.size, 0, none⟩ { w with heap := w.heap.push (.cells (AV.conL j l).toArray t (0, 0)) } ∧
   Post base D j H w (H.al l) { w with heap := w.heap.push (.cells (AV.conL j l).toArray t (0, 0)) } (j.put H.nx (.new w.heap.size l.length)) := by
 refine ⟨by simp [newRow], ?_⟩
 have := S.alloc hl hs (AV.conL j l).toArray t (0, 0) w.drawn (by simp) (by simp [conL_length]) (.inl rfl) (w' := { w with heap := w.heap.push (.cells (AV.conL j l).toArray t (0, 0)) }) rfl
 simpa [conL_length] using this
theorem dnew_nx {l : List AV} : Dnew D H (H.al l) H.nx := .inr ⟨Nat.le_refl _, by simp [AH.al]⟩
theorem con_nx {k e : Nat} {o : Nat} : (AV.pt H.nx o).con (j.put H.nx (.new k e)) = .pointer (some ⟨k, o, none⟩) := by simp [AV.con, Inj.put, at_new]
theorem snd_alloc (S : Sim base D j H w) {e : TypeId} {z : List AV} (ho : o.op = .alloc e) (hz : zerT P e = some z) : Snd P base D j H w a.eval o (.pt H.nx 0) (H.al z) := by
 obtain ⟨zv, hzv, hc, h1, h2⟩ := run_zero' hz j D w
 obtain ⟨r, p⟩ := new_row (P := P) S h1 h2 e
 refine ⟨_, _, _, ?_, .inl rfl, dnew_nx, p⟩
 rw [con_nx]
 simp [execOp, ho, Instr.alloc, hzv, newVar, hc, r]
theorem snd_box (R : Rel nt D j E a.tmps) (S : Sim base D j H w) {e : TypeId} {x : Operand} {x' : Opd} {l : List AV} (ho : o.op = .box e x) (hx : resO nt x = some x') (hl : (ev E x').cl = some l) : Snd P base D j H w a.eval o (.pt H.nx 0) (H.al l) := by
 obtain ⟨x1, x2⟩ := R.ev hx
 obtain ⟨c1, c2, c3⟩ := cl_con (j := j) hl x2
 obtain ⟨r, p⟩ := new_row (P := P) S c2 c3 e
 refine ⟨_, _, _, ?_, .inl rfl, dnew_nx, p⟩
 rw [con_nx]
 simp [execOp, ho, Instr.box, newVar, x1, c1, r]
theorem zerT_built {t : TypeId} {z : List AV} (h : zerT P t = some z) (j : Inj) (D : Nat → Prop) : ∃ i zv, P.info? t = some i ∧ i.zero = some zv ∧ zv.cells = (AV.conL j z).toArray ∧ AV.okL D z ∧ AV.scL z = true := by
 simp only [zerT, Option.bind_eq_some_iff] at h
 obtain ⟨i, hi, zv, hzv, h⟩ := h
 obtain ⟨h4, h5, h6⟩ := absL_con (j := j) (D := D) h
 exact ⟨i, zv, hi, hzv, by rw [h4], h5, h6⟩
theorem snd_bld (R : Rel nt D j E a.tmps) (S : Sim base D j H w) {t : TypeId} {ps : Array (Nat × Operand)} {pl : Nat → Option (Nat × Nat)} {z l : List AV} {q : List Part} (ho : o.op = .build t ps) (hpl : places P t = some pl) (hz : zerT P t = some z)
  (hq : resParts nt pl ps.toList = some q) (hl : vfill E z q = some l) : Snd P base D j H w a.eval o (.ag l) H := by
 obtain ⟨i, zv, hi, hzv, hc, z1, z2⟩ := zerT_built hz j D
 have hb : P.built t (ps.map fun (i, x) => (i, a.eval x)).toList = some (AV.conL j l).toArray ∧ AV.okL D l ∧ AV.scL l = true := by
  have hm : (ps.map fun (x : Nat × Operand) => (x.1, a.eval x.2)).toList = ps.toList.map fun x => (x.1, a.eval x.2) := by simp
  rw [show (ps.map fun (i, x) => (i, a.eval x)) = (ps.map fun (x : Nat × Operand) => (x.1, a.eval x.2)) from rfl, hm]
  unfold places at hpl
  split at hpl
  ·rename_i fs hu
   obtain ⟨pls, hpls, rfl⟩ := Option.map_eq_some_iff.1 hpl
   obtain ⟨f1, f2, f3, _⟩ := vfill_run R (pl := fun i => pls[i]?) (pl' := (pls.toArray[·]?)) (fun i => by simp) ps.toList q z l hq hl z1 z2
   refine ⟨?_, f2, f3⟩
   unfold Program.built
   simp only [hi, hu, hzv, hpls, hc]
   exact f1
  ·rename_i n e hu
   obtain ⟨ie, hie, rfl⟩ := Option.map_eq_some_iff.1 hpl
   obtain ⟨f1, f2, f3, _⟩ := vfill_run R (pl := fun i => some (i * ie.size, ie.size)) (pl' := fun i => some (i * ie.size, ie.size)) (fun i => rfl) ps.toList q z l hq hl z1 z2
   refine ⟨?_, f2, f3⟩
   unfold Program.built
   simp only [hi, hu, hzv, hie, hc]
   exact f1
  ·cases hpl
 refine Snd.same S ?_ ⟨hb.2.1, hb.2.2⟩
 have r := run_build (P := P) w t (ps.map fun (i, x) => (i, a.eval x)) _ hb.1
 simp [execOp, ho] at r ⊢
 simp [r, AV.con]
theorem flat_get (z : List AV) (hz : 0 < z.length) : ∀ (n i : Nat), i < n * z.length → (List.replicate n z).flatten[i]? = z[i % z.length]?
 | 0, i, h => by simp at h
 | n + 1, i, h => by
  simp only [List.replicate_succ, List.flatten_cons]
  by_cases h1 : i < z.length
  ·rw [List.getElem?_append_left h1, Nat.mod_eq_of_lt h1]
  ·rw [List.getElem?_append_right (by omega), flat_get z hz n (i - z.length) (by rw [Nat.add_mul] at h; omega)]
   rw [Nat.mod_eq_sub_mod (a := i) (b := z.length) (by omega)]
theorem flat_made (j : Inj) (z : List AV) (n : Nat) : madeCells (AV.conL j z).toArray (n * z.length) = (AV.conL j (List.replicate n z).flatten).toArray := by
 rcases Nat.eq_zero_or_pos z.length with h0 | h0
 ·have : z = [] := List.eq_nil_of_length_eq_zero h0
  subst this
  simp [madeCells, AV.conL, conL_eq, Array.range_zero']
 ·apply Array.ext_getElem?
  intro i
  simp only [madeCells, List.getElem?_toArray]
  rw [conL_get]
  by_cases hi : i < n * z.length
  ·rw [flat_get z h0 n i hi]
   have hm : i % z.length < z.length := Nat.mod_lt _ h0
   simp [Array.getElem?_map, hi, conL_length]
   rw [show z[i % z.length]? = some (z[i % z.length]'hm) by simp [hm]]
   simp only [Option.map_some, Option.some.injEq]
   have : (AV.conL j z)[i % z.length]? = some ((z[i % z.length]'hm).con j) := by rw [conL_get]; simp [hm]
   simp [this]
  ·have : (List.replicate n z).flatten[i]? = none := by
    apply List.getElem?_eq_none
    simp; omega
   rw [this]
   simp; omega
theorem okL_flat {n : Nat} {z : List AV} (h : AV.okL D z) : AV.okL D (List.replicate n z).flatten := by
 rw [okL_iff] at *
 intro v hv
 simp only [List.mem_flatten, List.mem_replicate] at hv
 obtain ⟨l, ⟨_, rfl⟩, hv⟩ := hv
 exact h v hv
theorem scL_flat {n : Nat} {z : List AV} (h : AV.scL z = true) : AV.scL (List.replicate n z).flatten = true := by
 rw [AV.scL, List.all_eq_true] at *
 intro v hv
 simp only [List.mem_flatten, List.mem_replicate] at hv
 obtain ⟨l, ⟨_, rfl⟩, hv⟩ := hv
 exact h v hv
theorem snd_bsl (R : Rel nt D j E a.tmps) (S : Sim base D j H w) {t e : TypeId} {n s : Nat} {ps : Array (Nat × Operand)} {z l : List AV} {q : List Part} (ho : o.op = .buildSlice t n ps) (hu : P.underlying t = some (.slice e)) (hs : sizT P e = some s)
  (hns : n * s ≤ 2 ^ 24) (hs0 : 0 < s) (hz : zerT P e = some z) (hzl : z.length = s) (hq : resParts nt (fun i => some (i * s, s)) ps.toList = some q) (hl : vfill E (List.replicate n z).flatten q = some l) :
  Snd P base D j H w a.eval o (.sl H.nx 0 n n) (H.al l) := by
 obtain ⟨zv, hzv, hc, h1, h2⟩ := run_zero' hz j D w
 obtain ⟨f1, f2, f3, f4⟩ := vfill_run R (pl := fun i => some (i * s, s)) (pl' := fun i => some (i * s, s)) (fun i => rfl) ps.toList q (List.replicate n z).flatten l hq hl (okL_flat h1) (scL_flat h2)
 obtain ⟨r, p⟩ := new_row (P := P) S f2 f3 e
 refine ⟨_, _, _, ?_, .inl rfl, dnew_nx, p⟩
 have hm : (ps.map fun (x : Nat × Operand) => (x.1, a.eval x.2)).toList = ps.toList.map fun x => (x.1, a.eval x.2) := by simp
 have hmade := flat_made j z n
 rw [hzl] at hmade
 simp only [madeCells] at hmade
 have hcon : (AV.sl H.nx 0 n n).con (j.put H.nx (.new w.heap.size l.length)) = .slice (some ⟨w.heap.size, 0, none⟩) n n := by simp [AV.con, Inj.put, at_new]
 rw [hcon]
 by_cases h0 : n * s = 0
 ·have hn : n = 0 := by
   rcases Nat.mul_eq_zero.1 h0 with h | h <;> omega
  subst hn
  simp only [List.replicate_zero, List.flatten_nil] at f1
  simp only [AV.conL] at f1
  simp only [execOp, ho, Instr.buildSlice, Sem.run_bind, run_underlying hu, Result.andThen_ok, run_sizeOf' hs, h0]
  have hr0 : (Array.range 0).map (fun (x : Nat) => (default : Value)) = #[] := by simp [Array.range_zero']
  simp [hr0, hm, f1, r]
 ·simp only [execOp, ho, Instr.buildSlice, Sem.run_bind, run_underlying hu, Result.andThen_ok, run_sizeOf' hs]
  rw [if_neg (by omega), if_neg h0]
  simp only [Sem.run_bind, hzv, Result.andThen_ok, Sem.run_pure, hc]
  rw [show (Array.range (n * s)).map (fun (x : Nat) => (AV.conL j z).toArray[x % (AV.conL j z).toArray.size]!) = (AV.conL j (List.replicate n z).flatten).toArray from hmade]
  simp [hm, f1, r]
theorem snd_mks (R : Rel nt D j E a.tmps) (S : Sim base D j H w) {t e : TypeId} {i : TypeInfo} {z : List AV} {l c : Operand} {l' c' : Opd} (ho : o.op = .makeSlice t l c) (hu : P.underlying t = some (.slice e)) (hi : P.info? e = some i) (hz : zerT P e = some z) (hzl : z.length = i.size)
  (hl : resO nt l = some l') (hc : resO nt c = some c') (h : vmks i.bytes z H (ev E l') (ev E c') = some (v, H')) : Snd P base D j H w a.eval o v H' := by
 obtain ⟨l1, l2⟩ := R.ev hl
 obtain ⟨c1, c2⟩ := R.ev hc
 obtain ⟨i', zv, hi', hzv, hzc, z1, z2⟩ := zerT_built hz j D
 rw [hi] at hi'
 obtain rfl := Option.some.inj hi'
 generalize ev E l' = u at *
 generalize ev E c' = q at *
 cases u <;> cases q <;> simp only [vmks, reduceCtorEq] at h
 rename_i kl lv kc cv
 split at h
 ·rename_i hb
  simp only [Option.some.injEq, Prod.mk.injEq] at h
  obtain ⟨rfl, rfl⟩ := h
  have r := run_make (P := P) w t e i zv hu hi hzv kl kc lv cv hb.1 hb.2.1 (by omega) hb.2.2.1
  have hmade := flat_made j z cv.toNat
  rw [hzl] at hmade
  rw [hzc, hmade] at r
  have p := S.alloc (okL_flat (n := cv.toNat) z1) (scL_flat (n := cv.toNat) z2) (AV.conL j (List.replicate cv.toNat z).flatten).toArray e (0, 0) w.drawn (by simp) (by simp [conL_length]) (.inl rfl)
   (w' := w.alloc (.cells (AV.conL j (List.replicate cv.toNat z).flatten).toArray e)) rfl
  refine ⟨_, _, _, ?_, .inl rfl, dnew_nx, p⟩
  simp only [execOp, ho, l1, c1, AV.con, Sem.run_bind, r, Result.andThen_ok, Sem.run_pure]
  simp [Inj.put, at_new]
 ·cases h
theorem snd_ld (R : Rel nt D j E a.tmps) (S : Sim base D j H w) {t : TypeId} {n : Nat} {x : Operand} {x' : Opd} (ho : o.op = .load t x) (ha : aggT P t = some true) (hs : sizT P t = some n) (hx : resO nt x = some x') (h : vld n H (ev E x') = some v) :
  Snd P base D j H w a.eval o v H := by
 obtain ⟨x1, x2⟩ := R.ev hx
 generalize ev E x' = u at *
 cases u <;> simp only [vld, reduceCtorEq] at h
 rename_i b p
 obtain ⟨l, hl, rfl⟩ := Option.map_eq_some_iff.1 h
 obtain ⟨r1, r2, r3, r4⟩ := S.loadCells (P := P) x2 hl
 refine Snd.same S ?_ ⟨r2, r3⟩
 simp [execOp, ho, Instr.loadAt, Instr.sureAddr, x1, AV.con, loadVar, run_isAgg' ha, run_sizeOf' hs, r1]
theorem snd_ld1 (R : Rel nt D j E a.tmps) (S : Sim base D j H w) {t : TypeId} {x : Operand} {x' : Opd} (ho : o.op = .load t x) (ha : aggT P t = some false) (hx : resO nt x = some x') (h : vld1 H (ev E x') = some v) :
  Snd P base D j H w a.eval o v H := by
 obtain ⟨x1, x2⟩ := R.ev hx
 generalize ev E x' = u at *
 cases u <;> simp only [vld1, reduceCtorEq] at h
 rename_i b p
 obtain ⟨r1, r2, r3⟩ := S.cell x2 h
 refine Snd.same S ?_ r2
 simp [execOp, ho, Instr.loadAt, Instr.sureAddr, x1, AV.con, loadVar, run_isAgg' ha, r1]
theorem snd_sto (R : Rel nt D j E a.tmps) (S : Sim base D j H w) {t : TypeId} {n : Nat} {p x : Operand} {p' x' : Opd} (ho : o.op = .store t p x) (hs : sizT P t = some n) (hp : resO nt p = some p') (hx : resO nt x = some x') (h : vsto n H (ev E p') (ev E x') = some (v, H')) :
  Snd P base D j H w a.eval o v H' := by
 obtain ⟨x1, x2⟩ := R.ev hx
 obtain ⟨p1, p2⟩ := R.ev hp
 generalize ev E x' = u at *
 generalize ev E p' = q at *
 cases q <;> simp only [vsto, reduceCtorEq, Option.bind_eq_some_iff] at h
 rename_i b off
 obtain ⟨m, hm, h⟩ := h
 split at h
 ·rename_i hlen
  obtain ⟨H1, hw, h⟩ := Option.map_eq_some_iff.1 h
  simp only [Prod.mk.injEq] at h
  obtain ⟨rfl, rfl⟩ := h
  obtain ⟨c1, c2, c3⟩ := cl_con (j := j) hm x2
  obtain ⟨w', r, p⟩ := S.store (P := P) (o := off) p2 hw c2 c3
  refine ⟨.skip, w', j, ?_, .inr ⟨rfl, rfl⟩, by simp [AV.ok, AV.okL], p⟩
  simp [execOp, ho, Instr.storeAt, Instr.sureAddr, p1, AV.con, storeVar, x1, c1, run_sizeOf' hs, conL_length, hlen, r]
 ·cases h
theorem snd_nilc (R : Rel nt D j E a.tmps) (S : Sim base D j H w) {x : Operand} {x' : Opd} (ho : o.op = .nilCheck x) (hx : resO nt x = some x') (h : vnilc (ev E x') = some v) : Snd P base D j H w a.eval o v H := by
 obtain ⟨x1, x2⟩ := R.ev hx
 generalize ev E x' = u at *
 unfold vnilc at h
 split at h
 ·simp only [Option.some.injEq] at h; subst h
  refine Snd.same S ?_ x2
  simp [execOp, ho, x1, AV.con]
 ·simp only [Option.some.injEq] at h; subst h
  refine Snd.same S ?_ x2
  simp [execOp, ho, x1, AV.con]
 ·cases h
theorem snd_fa (R : Rel nt D j E a.tmps) (S : Sim base D j H w) {t : TypeId} {i n : Nat} {f : Field} {x : Operand} {x' : Opd} (ho : o.op = .fieldAddr t x i) (hf : fieldT P t i = some f) (hs : sizT P f.type = some n) (hn : n ≠ 0)
  (hx : resO nt x = some x') (h : vfa f.offset (ev E x') = some v) : Snd P base D j H w a.eval o v H := by
 obtain ⟨x1, x2⟩ := R.ev hx
 generalize ev E x' = u at *
 cases u <;> simp only [vfa, Option.some.injEq, reduceCtorEq] at h
 subst h
 refine Snd.same S ?_ x2
 unfold fieldT at hf
 split at hf
 ·rename_i fs hu
  simp [execOp, ho, Instr.fieldAt, run_underlying hu, x1, AV.con, hf, Instr.sureAddr, fieldPlace, run_sizeOf' hs, hn, at_add]
 ·cases hf
theorem snd_iaa (R : Rel nt D j E a.tmps) (S : Sim base D j H w) {t e : TypeId} {n s : Nat} {x i : Operand} {x' i' : Opd} (ho : o.op = .indexAddr t x i) (hu : P.underlying t = some (.array n e)) (hs : sizT P e = some s)
  (hx : resO nt x = some x') (hi : resO nt i = some i') (h : viaa n s (ev E x') (ev E i') = some v) : Snd P base D j H w a.eval o v H := by
 obtain ⟨x1, x2⟩ := R.ev hx
 obtain ⟨i1, i2⟩ := R.ev hi
 generalize ev E x' = u at *
 generalize ev E i' = q at *
 cases u <;> cases q <;> simp only [viaa, reduceCtorEq] at h
 split at h
 ·rename_i hb
  simp only [Option.some.injEq] at h; subst h
  refine Snd.same S ?_ x2
  simp [execOp, ho, Instr.indexAt, run_underlying hu, x1, i1, AV.con, asIntOf, hb.1, hb.2, run_sizeOf' hs, Instr.sureAddr, at_add]
 ·cases h
theorem room (S : Sim base D j H w) {b o n es : Nat} (hb : D b) (hes : 0 < es) (hown : (H.g b).own = true) (h : o + n * es ≤ (H.g b).cells.length) : n ≤ ((j b).e - o) / es ∧ (0 < n → ((j b).e - o) / es ≠ 0) := by
 have h1 : n ≤ ((j b).e - o) / es := by
  rw [Nat.le_div_iff_mul_le hes]
  cases hg : H.g b with
  | no => rw [hg] at hown; simp [Blk.own] at hown
  | ro l => rw [hg] at hown; simp [Blk.own] at hown
  | rw l =>
   obtain ⟨⟨cs, t, fr, g1, g2, g5, g6, g7⟩, _⟩ := S.rw b l hb hg
   rw [hg] at h
   simp only [Blk.cells] at h
   rw [conL_length] at g6
   omega
  | mp l =>
   rw [hg] at h
   simp only [Blk.cells, List.length_nil] at h
   omega
 exact ⟨h1, fun h0 => by omega⟩
theorem snd_ia (R : Rel nt D j E a.tmps) (S : Sim base D j H w) {t e : TypeId} {s : Nat} {x i : Operand} {x' i' : Opd} (ho : o.op = .indexAddr t x i) (hu : P.underlying t = some (.slice e)) (hs : sizT P e = some s)
  (hx : resO nt x = some x') (hi : resO nt i = some i') (h : via s H (ev E x') (ev E i') = some v) : Snd P base D j H w a.eval o v H := by
 obtain ⟨x1, x2⟩ := R.ev hx
 obtain ⟨i1, i2⟩ := R.ev hi
 generalize ev E x' = u at *
 generalize ev E i' = q at *
 cases u <;> cases q <;> simp only [via, reduceCtorEq] at h
 ·split at h
  ·rename_i hb
   simp only [Option.some.injEq] at h; subst h
   refine Snd.same S ?_ x2
   simp [execOp, ho, Instr.indexAt, run_underlying hu, x1, i1, AV.con, asIntOf, hb.1, hb.2, run_sizeOf' hs, at_add]
  ·cases h
 ·split at h
  ·rename_i bb pp qq nn ee kk ii hb
   obtain ⟨rfl, hb0, hb1, hb2, hb3, hb4⟩ := hb
   have hpos : 0 < nn * ee := Nat.mul_pos (by omega) hb0
   simp only [Option.some.injEq] at h; subst h
   obtain ⟨_, hcap⟩ := room S x2 hb0 (isRw_own hb2) hb1
   refine Snd.same S ?_ x2
   have hc := hcap (by omega)
   simp only [AV.con, if_neg hc] at x1
   rw [← S.own_at x2 hb2] at x1
   simp [execOp, ho, Instr.indexAt, run_underlying hu, x1, i1, AV.con, asIntOf, hb3, hb4, run_sizeOf' hs, at_add]
  ·cases h
end
end Go.AX
end
section
namespace Go.AX
open Go
section
variable {P : Program} {base nt : Nat} {D : Nat → Prop} {j : Inj} {H H' : AH} {w : World} {a : Act} {o : Oper} {v : AV} {E : Env}
theorem bnd_run (R : Rel nt D j E a.tmps) {x : Operand} {x' : Opd} (hx : resO nt x = some x') {d top r : Nat} (hb : bnd E d top (some x') = some r) (code : BoundsCode) :
  (Instr.sliceBound (a.eval x) top code).run P w = .ok r w := by
 obtain ⟨x1, x2⟩ := R.ev hx
 rw [x1]
 simp only [bnd] at hb
 split at hb
 ·rename_i k i he
  split at hb
  ·rename_i hi
   simp only [Option.some.injEq] at hb; subst hb
   rw [he]
   simp [AV.con, Instr.sliceBound, asIntOf, hi.1, hi.2]
  ·cases hb
 ·cases hb
theorem bounds_run (R : Rel nt D j E a.tmps) {lo hi mx : Option Operand} {lo' hi' mx' : Option Opd} (hlo : resOO nt lo = some lo') (hhi : resOO nt hi = some hi') (hmx : resOO nt mx = some mx') (hsome : (mx'.isSome && hi'.isNone) = false)
  {len cap l h m : Nat} (hm : bnd E cap cap mx' = some m) (hh : bnd E len m hi' = some h) (hl : bnd E 0 h lo' = some l) (isSlice : Bool) :
  (Instr.sliceBounds isSlice len cap (lo.map a.eval) (hi.map a.eval) (mx.map a.eval)).run P w = .ok (l, h, m) w := by
 cases mx with
 | none =>
  simp only [resOO, Option.some.injEq] at hmx; subst hmx
  simp only [bnd, Option.some.injEq] at hm; subst hm
  cases hi with
  | none =>
   simp only [resOO, Option.some.injEq] at hhi; subst hhi
   simp only [bnd, Option.some.injEq] at hh; subst hh
   simp only [Instr.sliceBounds, Option.map_none, Sem.run_bind, Sem.run_pure, Result.andThen_ok]
   cases lo with
   | none =>
    simp only [resOO, Option.some.injEq] at hlo; subst hlo
    simp only [bnd, Option.some.injEq] at hl; subst hl
    simp
   | some x =>
    obtain ⟨x', hx, rfl⟩ := Option.map_eq_some_iff.1 hlo
    have hL := fun code => bnd_run (P := P) (w := w) R hx hl code
    simp [hL]
  | some y =>
   obtain ⟨y', hy, rfl⟩ := Option.map_eq_some_iff.1 hhi
   have hH := bnd_run (P := P) (w := w) R hy hh (if isSlice then .sliceAcap else .sliceAlen)
   simp only [Instr.sliceBounds, Option.map_none, Option.map_some, Sem.run_bind, Sem.run_pure, Result.andThen_ok, hH]
   cases lo with
   | none =>
    simp only [resOO, Option.some.injEq] at hlo; subst hlo
    simp only [bnd, Option.some.injEq] at hl; subst hl
    simp
   | some x =>
    obtain ⟨x', hx, rfl⟩ := Option.map_eq_some_iff.1 hlo
    have hL := fun code => bnd_run (P := P) (w := w) R hx hl code
    simp [hL]
 | some z =>
  obtain ⟨z', hz, rfl⟩ := Option.map_eq_some_iff.1 hmx
  have hM := bnd_run (P := P) (w := w) R hz hm (if isSlice then .slice3Acap else .slice3Alen)
  cases hi with
  | none =>
   simp only [resOO, Option.some.injEq] at hhi; subst hhi
   simp at hsome
  | some y =>
   obtain ⟨y', hy, rfl⟩ := Option.map_eq_some_iff.1 hhi
   have hH := bnd_run (P := P) (w := w) R hy hh .slice3B
   simp only [Instr.sliceBounds, Option.map_some, Sem.run_bind, Sem.run_pure, Result.andThen_ok, hM, hH]
   cases lo with
   | none =>
    simp only [resOO, Option.some.injEq] at hlo; subst hlo
    simp only [bnd, Option.some.injEq] at hl; subst hl
    simp
   | some x =>
    obtain ⟨x', hx, rfl⟩ := Option.map_eq_some_iff.1 hlo
    have hL := fun code => bnd_run (P := P) (w := w) R hx hl code
    simp [hL]
theorem bnd_le {d top r : Nat} {x : Option Opd} (h : bnd E d top x = some r) (hd : d ≤ top) : r ≤ top := by
 cases x with
 | none => simp only [bnd, Option.some.injEq] at h; omega
 | some x =>
  simp only [bnd] at h
  split at h
  ·split at h
   ·simp only [Option.some.injEq] at h; omega
   ·cases h
  ·cases h
theorem slcSl_con {es b o l h m : Nat} : (slcSl es b o l h m).con j = .slice (some (if m = l then (j b).at o else ((j b).at o).add (l * es))) (h - l) (m - l) := by
 simp only [slcSl, AV.con, at_add]
 split <;> rfl
theorem snd_slc (R : Rel nt D j E a.tmps) (S : Sim base D j H w) {t e : TypeId} {s : Nat} {x : Operand} {x' : Opd} {lo hi mx : Option Operand} {lo' hi' mx' : Option Opd} (ho : o.op = .slice t x lo hi mx) (hu : P.underlying t = some (.slice e)) (hs : sizT P e = some s)
  (hx : resO nt x = some x') (hlo : resOO nt lo = some lo') (hhi : resOO nt hi = some hi') (hmx : resOO nt mx = some mx') (hsome : (mx'.isSome && hi'.isNone) = false)
  (h : vslc s H E (ev E x') lo' hi' mx' = some v) : Snd P base D j H w a.eval o v H := by
 obtain ⟨x1, x2⟩ := R.ev hx
 have fin : ∀ (vv : AV) ad len cap l h m, vv.ok D → a.eval x = .slice ad len cap → (∀ isSlice, (Instr.sliceBounds isSlice len cap (lo.map a.eval) (hi.map a.eval) (mx.map a.eval)).run P w = .ok (l, h, m) w) →
   vv.con j = .slice (if m = l then ad else ad.map (·.add (l * s))) (h - l) (m - l) → Snd P base D j H w a.eval o vv H := by
  intro vv ad len cap l h m hv hxe hb hc
  refine Snd.same S ?_ hv
  simp only [execOp, ho, Instr.sliceAt, Instr.slice, Sem.run_bind, run_underlying hu, Result.andThen_ok, hxe, hb, run_sizeOf' hs, Sem.run_pure, hc]
 generalize ev E x' = u at *
 unfold vslc at h
 split at h
 ·simp only [Option.bind_eq_some_iff] at h
  obtain ⟨m, hm, h', hh, l, hl, hv⟩ := h
  simp only [Option.some.injEq] at hv; subst hv
  have e1 := bnd_le hm (Nat.le_refl _)
  have e2 := bnd_le hh (Nat.zero_le _)
  have e3 := bnd_le hl (Nat.zero_le _)
  refine fin .sn none 0 0 l h' m (by simp [AV.ok]) (by simpa [AV.con] using x1) (fun i => bounds_run R hlo hhi hmx hsome hm hh hl i) ?_
  have q1 : m = 0 := by omega
  have q2 : h' = 0 := by omega
  have q3 : l = 0 := by omega
  subst q1; subst q2; subst q3
  simp [AV.con]
 ·rename_i b off n c
  simp only [Option.bind_eq_some_iff] at h
  obtain ⟨m, hm, h', hh, l, hl, hv⟩ := h
  simp only [Option.some.injEq] at hv; subst hv
  refine fin _ (some ((j b).at off)) n c l h' m x2 (by simpa [AV.con] using x1) (fun i => bounds_run R hlo hhi hmx hsome hm hh hl i) ?_
  rw [slcSl_con]
  split <;> simp
 ·rename_i b off q n es'
  split at h
  ·rename_i hc
   obtain ⟨rfl, hes, hfit, hown⟩ := hc
   obtain ⟨hcap, hne⟩ := room S x2 hes (isRw_own hown) hfit
   split at h
   ·simp only [Option.bind_eq_some_iff] at h
    obtain ⟨h', hh, l, hl, hv⟩ := h
    have e2 := bnd_le hh (Nat.le_refl _)
    have e3 := bnd_le hl (Nat.zero_le _)
    have hm : bnd E (((j b).e - off) / es') (((j b).e - off) / es') none = some (((j b).e - off) / es') := rfl
    have hh' : bnd E n (((j b).e - off) / es') hi' = some h' := by
     cases hi' with
     | none => exact hh
     | some y =>
      simp only [bnd] at hh ⊢
      split at hh
      ·split at hh
       ·rename_i hz; rw [if_pos ⟨hz.1, by omega⟩]; exact hh
       ·cases hh
      ·cases hh
    have hx1 : a.eval x = .slice (some ⟨(j b).k, if ((j b).e - off) / es' = 0 then q else off, none⟩) n (((j b).e - off) / es') := by simpa only [AV.con] using x1
    simp only [Option.some.injEq] at hv
    refine fin v _ n _ l h' _ ?_ hx1 (fun i => bounds_run R hlo hhi hmx hsome hm hh' hl i) ?_
    ·subst hv; split <;> exact x2
    ·subst hv
     by_cases hl0 : l = 0
     ·subst hl0
      simp only [if_true, AV.con, Nat.sub_zero]
      split
      ·rfl
      ·simp [addr_add]
     ·rw [if_neg hl0]
      have hpos : ((j b).e - off) / es' ≠ 0 := hne (by omega)
      have hdiv : ((j b).e - (off + l * es')) / es' = ((j b).e - off) / es' - l := by
       rw [← Nat.sub_sub, Nat.mul_comm l es', Nat.sub_mul_div]
      simp only [AV.con, hdiv, if_neg hpos]
      have hle : l ≤ ((j b).e - off) / es' := by omega
      by_cases hz : ((j b).e - off) / es' = l
      ·rw [if_pos (by omega), if_pos hz]
      ·rw [if_neg (by omega), if_neg hz]
       simp [addr_add]
   ·rename_i mo
    simp only [Option.bind_eq_some_iff] at h
    obtain ⟨m, hm, h', hh, l, hl, h⟩ := h
    have e1 := bnd_le hm (Nat.le_refl _)
    have hm' : bnd E (((j b).e - off) / es') (((j b).e - off) / es') (some mo) = some m := by
     simp only [bnd] at hm ⊢
     split at hm
     ·split at hm
      ·rename_i hz; rw [if_pos ⟨hz.1, by omega⟩]; exact hm
      ·cases hm
     ·cases hm
    have hx1 : a.eval x = .slice (some ⟨(j b).k, if ((j b).e - off) / es' = 0 then q else off, none⟩) n (((j b).e - off) / es') := by simpa only [AV.con] using x1
    split at h
    ·rename_i hq
     simp only [Option.some.injEq] at h; subst h
     refine fin _ _ n _ l h' m x2 hx1 (fun i => bounds_run R hlo hhi hmx hsome hm' hh hl i) ?_
     rw [slcSl_con, S.own_at x2 hown]
     have hoff : (if ((j b).e - off) / es' = 0 then q else off) = off := by
      split
      ·rename_i hz
       rcases hq with hq | hq
       ·exact hq.symm
       ·exact absurd hz (hne (by omega))
      ·rfl
     rw [hoff]
     split <;> simp
    ·cases h
  ·cases h
 ·cases h
theorem snd_slca (R : Rel nt D j E a.tmps) (S : Sim base D j H w) {t e : TypeId} {n s : Nat} {x : Operand} {x' : Opd} {lo hi mx : Option Operand} {lo' hi' mx' : Option Opd} (ho : o.op = .slice t x lo hi mx) (hu : P.underlying t = some (.array n e)) (hs : sizT P e = some s)
  (hx : resO nt x = some x') (hlo : resOO nt lo = some lo') (hhi : resOO nt hi = some hi') (hmx : resOO nt mx = some mx') (hsome : (mx'.isSome && hi'.isNone) = false)
  (h : vslca n s E (ev E x') lo' hi' mx' = some v) : Snd P base D j H w a.eval o v H := by
 obtain ⟨x1, x2⟩ := R.ev hx
 generalize ev E x' = u at *
 unfold vslca at h
 split at h
 ·rename_i b off
  simp only [Option.bind_eq_some_iff] at h
  obtain ⟨m, hm, h', hh, l, hl, hv⟩ := h
  simp only [Option.some.injEq] at hv; subst hv
  refine Snd.same S ?_ x2
  have hb := bounds_run (P := P) (w := w) R hlo hhi hmx hsome hm hh hl false
  rw [slcSl_con]
  simp only [execOp, ho, Instr.sliceAt, Sem.run_bind, run_underlying hu, Result.andThen_ok, x1, AV.con, Instr.sureAddr, Sem.run_pure, hb, run_sizeOf' hs]
 ·cases h
theorem snd_slcs (R : Rel nt D j E a.tmps) (S : Sim base D j H w) {t : TypeId} {x : Operand} {x' : Opd} {lo hi : Option Operand} {lo' hi' : Option Opd} (ho : o.op = .slice t x lo hi none) (hu : P.underlying t = some .string)
  (hx : resO nt x = some x') (hlo : resOO nt lo = some lo') (hhi : resOO nt hi = some hi') (h : vslcs E (ev E x') lo' hi' = some v) : Snd P base D j H w a.eval o v H := by
 obtain ⟨x1, x2⟩ := R.ev hx
 generalize ev E x' = u at *
 unfold vslcs at h
 split at h
 ·rename_i st
  simp only [Option.bind_eq_some_iff] at h
  obtain ⟨h', hh, l, hl, hv⟩ := h
  simp only [Option.some.injEq] at hv; subst hv
  refine Snd.same S ?_ (by simp [AV.ok])
  have hb := bounds_run (P := P) (w := w) R hlo hhi (mx := none) (mx' := none) rfl (by simp) (cap := st.size) (m := st.size) rfl hh hl false
  simp only [Option.map_none] at hb
  simp only [execOp, ho, Instr.sliceAt, Instr.slice, Sem.run_bind, run_underlying hu, Result.andThen_ok, x1, AV.con, Option.map_none, Option.isSome_none, Bool.false_eq_true, if_false, Sem.run_pure, hb]
 ·cases h
theorem Sim.world {w' : World} (S : Sim base D j H w) (h : w'.heap = w.heap) : Sim base D j H w' := by
 refine ⟨S.lt, S.wf, by rw [h]; exact S.size, fun b l hb hg => ?_, fun b l hb hg => ?_, fun b l hb hg => ?_, S.inj⟩
 ·obtain ⟨⟨cs, t, fr, h1, h2⟩, h3⟩ := S.ro b l hb hg
  exact ⟨⟨cs, t, fr, by rw [h]; exact h1, h2⟩, h3⟩
 ·obtain ⟨⟨cs, t, fr, h1, h2⟩, h3⟩ := S.rw b l hb hg
  exact ⟨⟨cs, t, fr, by rw [h]; exact h1, h2⟩, h3⟩
 ·obtain ⟨⟨en, c, h1, h2⟩, h3⟩ := S.mp b l hb hg
  exact ⟨⟨en, c, by rw [h]; exact h1, h2⟩, h3⟩
theorem cvsame_post (S : Sim base D j H w) {b : Nat} (hb : D b) (hown : (H.g b).own = true) {w' : World} (hw : ∀ cs t fr, w.heap[(j b).k]? = some (.cells cs t fr) → w' = w.freeze ⟨(j b).k, cs.size, none⟩ 1)
  (hmap : (∀ cs t fr, w.heap[(j b).k]? ≠ some (.cells cs t fr)) → w' = w) : Post base D j H w H w' j := by
 cases hg : H.g b with
 | no => rw [hg] at hown; simp [Blk.own] at hown
 | ro l => rw [hg] at hown; simp [Blk.own] at hown
 | mp l =>
  obtain ⟨⟨en, c, g1, g2⟩, g3⟩ := S.mp b l hb hg
  have := hmap (fun cs t fr e => by rw [g1] at e; cases e)
  subst this
  exact Post.refl S
 | rw l =>
  obtain ⟨⟨cs, t, fr, g1, g2, g5, g6, g7⟩, g3, g4, g8⟩ := S.rw b l hb hg
  have hw' := hw cs t fr g1
  subst hw'
  have hk : (w.freeze ⟨(j b).k, cs.size, none⟩ 1).heap[(j b).k]? = some (.cells cs t (if fr.1 = fr.2 then (cs.size, cs.size + 1) else (min fr.1 cs.size, max fr.2 (cs.size + 1)))) := by
   simp only [World.freeze, Nat.one_ne_zero, if_false, Array.getElem?_modify, if_true, g1, Option.map_some]
   obtain ⟨lo, hi⟩ := fr
   simp
  have hother : ∀ k, k ≠ (j b).k → (w.freeze ⟨(j b).k, cs.size, none⟩ 1).heap[k]? = w.heap[k]? := by
   intro k hk
   simp only [World.freeze, Nat.one_ne_zero, if_false, Array.getElem?_modify]
   rw [if_neg (fun e => hk e.symm)]
  have hold : ∀ x, D x → x ≠ b → H.g x ≠ .no → (j x).k ≠ (j b).k := fun x hx hne hn e => hne (S.inj b x hb hx hown hn e)
  refine ⟨Evo.refl H, fun _ _ => rfl, Sim.iffD (D := D) ⟨S.lt, S.wf, ?_, ?_, ?_, ?_, S.inj⟩ (fun x => Dnew.self), ⟨?_, ?_, ?_, ?_, ?_⟩, fun x h1 h2 _ => by omega⟩
  ·have := S.size
   simpa [World.freeze] using this
  ·intro x lx hx hro
   obtain ⟨⟨cs1, t1, fr1, h1, h2⟩, h3⟩ := S.ro x lx hx hro
   have hne : x ≠ b := fun e => by subst e; rw [hg] at hro; cases hro
   exact ⟨⟨cs1, t1, fr1, by rw [hother _ (hold x hx hne (by rw [hro]; simp))]; exact h1, h2⟩, h3⟩
  ·intro x lx hx hrw
   by_cases hne : x = b
   ·subst hne
    rw [hg] at hrw
    simp only [Blk.rw.injEq] at hrw
    subst hrw
    refine ⟨⟨cs, t, _, hk, g2, g5, g6, ?_⟩, g3, g4, g8⟩
    split
    ·exact .inr (Nat.le_refl _)
    ·rename_i hne
     rcases g7 with g7 | g7
     ·exact absurd g7 hne
     ·exact .inr (by simp; omega)
   ·obtain ⟨⟨cs1, t1, fr1, h1, h2⟩, h3⟩ := S.rw x lx hx hrw
    exact ⟨⟨cs1, t1, fr1, by rw [hother _ (hold x hx hne (by rw [hrw]; simp))]; exact h1, h2⟩, h3⟩
  ·intro x lx hx hrw
   have hne : x ≠ b := fun e => by subst e; rw [hg] at hrw; cases hrw
   obtain ⟨⟨cs1, t1, h1, h2⟩, h3⟩ := S.mp x lx hx hrw
   exact ⟨⟨cs1, t1, by rw [hother _ (hold x hx hne (by rw [hrw]; simp))]; exact h1, h2⟩, h3⟩
  ·simp [World.freeze]
  ·simp [World.freeze]
  ·simp [World.freeze]
  ·simp [World.freeze]
  ·intro k _ hn
   exact hother k (fun e => hn b hb hown e.symm)
theorem snd_cvsame (R : Rel nt D j E a.tmps) (S : Sim base D j H w) {s e : TypeId} {x : Operand} {x' : Opd} (ho : o.op = .convert s s x) (hu : P.underlying s = some (.slice e)) (he : isU8 P e = true) (hx : resO nt x = some x') (h : vcvsame H (ev E x') = some v) :
  Snd P base D j H w a.eval o v H := by
 obtain ⟨x1, x2⟩ := R.ev hx
 have hue : (underlying e).run P w = .ok (.int .u8) w := by
  unfold isU8 at he
  split at he
  ·rename_i hd; exact run_underlying hd w
  ·cases he
 have key : ∀ {b : Nat} {ad : Addr} {n c : Nat}, v.con j = .slice (some ad) n c → ad.block = (j b).k → D b → (H.g b).own = true → ev E x' = v → Snd P base D j H w a.eval o v H := by
  intro b ad n c hcon hblk hDb hown hev
  rw [hev] at x1 x2
  have hrun : (execOp a.eval o).run P w = ((markStringish ad).run P w).andThen fun _ w' => .ok (.value (v.con j)) w' := by
   rw [hcon] at x1 ⊢
   simp only [execOp, ho, convert, Sem.run_bind, run_underlying hu, Result.andThen_ok, x1, hue, beq_self_eq_true, Sem.run_pure]
   cases (markStringish ad).run P w <;> rfl
  by_cases hc : ∃ cs t fr, w.heap[(j b).k]? = some (.cells cs t fr)
  ·obtain ⟨cs, t, fr, hcs⟩ := hc
   have hsh : w.shape? (j b).k = some (t, cs.size) := by simp [World.shape?, hcs]
   have hm : (markStringish ad).run P w = .ok () (w.freeze ⟨(j b).k, cs.size, none⟩ 1) := by
    simp [markStringish, hblk, hsh]
   refine ⟨_, _, j, by rw [hrun, hm]; rfl, .inl rfl, ok_Dnew x2, cvsame_post S hDb hown (fun cs' t' fr' h' => ?_) (fun hn => absurd hcs (hn _ _ _))⟩
   rw [hcs] at h'
   simp only [Option.some.injEq, Obj.cells.injEq] at h'
   rw [h'.1]
  ·have hsh : w.shape? (j b).k = none := by
    unfold World.shape?
    split
    ·rename_i c e' f hh; exact absurd ⟨_, _, _, hh⟩ hc
    ·rfl
   have hm : (markStringish ad).run P w = .ok () w := by
    simp [markStringish, hblk, hsh]
   exact ⟨_, _, j, by rw [hrun, hm]; rfl, .inl rfl, ok_Dnew x2, Post.refl S⟩
 generalize hu0 : ev E x' = u at h
 rw [hu0] at x2
 unfold vcvsame at h
 split at h
 ·rename_i b off n c
  split at h
  ·rename_i hown
   simp only [Option.some.injEq] at h; subst h
   exact key rfl (by unfold CB.at Addr.add; split <;> rfl) x2 hown hu0
  ·cases h
 ·rename_i b off q n es
  split at h
  ·rename_i hown
   simp only [Option.some.injEq] at h; subst h
   exact key rfl rfl x2 hown hu0
  ·cases h
 ·cases h
theorem call_run {c : Call} {b : Builtin} (ho : o.op = .call c) (hc : c.callee = .builtin b) {r : Result Next} (h : (builtin b c.argTypes o.type (c.args.map fun | .const _ => true | _ => false) (c.args.map a.eval)).run P w = r) : (execOp a.eval o).run P w = r := by
 simp only [execOp, ho, resolve, hc, Sem.run_bind, Sem.run_pure, Result.andThen_ok, invoke]
 exact h
theorem args_one {c : Call} {x : Operand} (hx : c.args.toList = [x]) : c.args.map a.eval = #[a.eval x] := by
 apply Array.ext'; simp [hx]
theorem args_two {c : Call} {x y : Operand} (hx : c.args.toList = [x, y]) : c.args.map a.eval = #[a.eval x, a.eval y] := by
 apply Array.ext'; simp [hx]
theorem snd_lenk (S : Sim base D j H w) {n : Nat} {x : Operand} {t e : TypeId} {c : Call} (ho : o.op = .call c) (hc : c.callee = .builtin .len) (ht : c.argTypes[0]? = some t) (hx : c.args.toList = [x])
  (hu : P.underlying t = some (.array n e) ∨ ∃ ar, P.underlying t = some (.pointer ar) ∧ P.underlying ar = some (.array n e)) : Snd P base D j H w a.eval o (.it .i64 n) H := by
 refine Snd.same S (call_run ho hc ?_) (by simp [AV.ok])
 rcases hu with hu | ⟨ar, hu, hv⟩
 ·simp [builtin, Builtin.len_, ht, args_one hx, run_underlying hu, AV.con, goInt]
 ·simp [builtin, Builtin.len_, ht, args_one hx, run_underlying hu, run_underlying hv, AV.con, goInt]
theorem snd_len (R : Rel nt D j E a.tmps) (S : Sim base D j H w) {k : Nat} {x : Operand} {x' : Opd} {t : TypeId} {c : Call} (ho : o.op = .call c) (hc : c.callee = .builtin .len) (ht : c.argTypes[0]? = some t) (hx : c.args.toList = [x]) (hx' : resO nt x = some x')
  (hu : k = 0 ∧ P.underlying t = some .string ∨ k = 1 ∧ (∃ e, P.underlying t = some (.slice e)) ∨ k = 2 ∧ ∃ q e, P.underlying t = some (.map q e)) (h : vlen k H (ev E x') = some v) : Snd P base D j H w a.eval o v H := by
 obtain ⟨x1, x2⟩ := R.ev hx'
 have fin : ∀ vv : AV, vv.ok D → (Builtin.len_ c.argTypes o.type #[a.eval x]).run P w = .ok (vv.con j) w → Snd P base D j H w a.eval o vv H := by
  intro vv hv hr
  refine Snd.same S (call_run ho hc ?_) hv
  simp [builtin, args_one hx, hr]
 generalize ev E x' = u at *
 rcases hu with ⟨rfl, hu⟩ | ⟨rfl, e, hu⟩ | ⟨rfl, q, e, hu⟩
 ·simp only [vlen] at h
  split at h
  ·simp only [Option.some.injEq] at h; subst h
   refine fin _ (by simp [AV.ok]) ?_
   simp [Builtin.len_, ht, x1, AV.con, run_underlying hu, goInt]
  ·cases h
 ·simp only [vlen] at h
  split at h
  ·simp only [Option.some.injEq] at h; subst h
   refine fin _ (by simp [AV.ok]) ?_
   simp [Builtin.len_, ht, x1, AV.con, run_underlying hu, goInt]
  ·simp only [Option.some.injEq] at h; subst h
   refine fin _ (by simp [AV.ok]) ?_
   simp [Builtin.len_, ht, x1, AV.con, run_underlying hu, goInt]
  ·simp only [Option.some.injEq] at h; subst h
   refine fin _ (by simp [AV.ok]) ?_
   simp [Builtin.len_, ht, x1, AV.con, run_underlying hu, goInt]
  ·cases h
 ·simp only [vlen] at h
  split at h
  ·simp only [Option.some.injEq] at h; subst h
   refine fin _ (by simp [AV.ok]) ?_
   simp [Builtin.len_, ht, x1, AV.con, run_underlying hu, goInt]
  ·rename_i b
   split at h
   ·rename_i es hg
    simp only [Option.some.injEq] at h; subst h
    obtain ⟨⟨en, cl, g1, g2⟩, _⟩ := S.mp b es x2 hg
    have hlen : (en.size : Int) = (es.length : Int) - 1 := by
     have := congrArg List.length g2
     simp [conM, mapL] at this
     omega
    refine fin _ (by simp [AV.ok]) ?_
    have hgo : (getObj (j b).k).run P w = .ok (.map en cl) w := by
     simp [getObj, Sem.run, g1]
    simp [Builtin.len_, ht, x1, AV.con, run_underlying hu, goInt, hgo, hlen]
   ·cases h
  ·cases h
theorem snd_cap (R : Rel nt D j E a.tmps) (S : Sim base D j H w) {x : Operand} {x' : Opd} {t e : TypeId} {c : Call} (ho : o.op = .call c) (hc : c.callee = .builtin .cap) (ht : c.argTypes[0]? = some t) (hx : c.args.toList = [x]) (hx' : resO nt x = some x')
  (hu : P.underlying t = some (.slice e)) (h : vcap (ev E x') = some v) : Snd P base D j H w a.eval o v H := by
 obtain ⟨x1, x2⟩ := R.ev hx'
 generalize ev E x' = u at *
 unfold vcap at h
 split at h
 ·simp only [Option.some.injEq] at h; subst h
  refine Snd.same S (call_run ho hc ?_) (by simp [AV.ok])
  simp [builtin, Builtin.cap_, ht, args_one hx, x1, AV.con, run_underlying hu, goInt]
 ·simp only [Option.some.injEq] at h; subst h
  refine Snd.same S (call_run ho hc ?_) (by simp [AV.ok])
  simp [builtin, Builtin.cap_, ht, args_one hx, x1, AV.con, run_underlying hu, goInt]
 ·cases h
theorem mm2_run {mx : Bool} {x y : AV} (h : mm2 mx x y = some v) : ((match mx with | true => Builtin.max2 | false => Builtin.min2) (x.con j) (y.con j)).run P w = .ok (v.con j) w ∧ v.ok D := by
 cases x <;> cases y <;> simp only [mm2, Option.some.injEq, reduceCtorEq] at h
 subst h
 cases mx <;> exact ⟨by simp [AV.con, Builtin.max2, Builtin.min2], by simp [AV.ok]⟩
theorem mmL_run {mx : Bool} : ∀ {ys : List AV} {x v : AV}, x.ok D → mmL mx x ys = some v → ((AV.conL j ys).foldlM (m := Sem) (match mx with | true => Builtin.max2 | false => Builtin.min2) (x.con j)).run P w = .ok (v.con j) w ∧ v.ok D
 | [], x, v, hx, h => by
  simp only [mmL, Option.some.injEq] at h; subst h
  exact ⟨by simp [AV.conL], hx⟩
 | y :: r, x, v, hx, h => by
  simp only [mmL, Option.bind_eq_some_iff] at h
  obtain ⟨c, hc, h⟩ := h
  obtain ⟨r1, r2⟩ := mm2_run (P := P) (j := j) (w := w) (D := D) hc
  obtain ⟨r3, r4⟩ := mmL_run r2 h
  refine ⟨?_, r4⟩
  simp only [AV.conL, List.foldlM_cons, Sem.run_bind, r1, Result.andThen_ok]
  exact r3
theorem snd_mm (R : Rel nt D j E a.tmps) (S : Sim base D j H w) {mx : Bool} {xs : List Opd} {c : Call} (ho : o.op = .call c) (hc : c.callee = .builtin (if mx then .max else .min)) (hx : resL nt c.args.toList = some xs)
  (h : (match xs with | [] => none | x :: r => mmL mx (ev E x) (r.map (ev E))) = some v) : Snd P base D j H w a.eval o v H := by
 obtain ⟨r1, r2⟩ := resL_run R hx
 cases xs with
 | nil => simp at h
 | cons x r =>
  simp only [List.map_cons] at r1 r2 h
  have r2' : (ev E x).ok D ∧ AV.okL D (r.map (ev E)) := r2
  obtain ⟨q1, q2⟩ := mmL_run (P := P) (j := j) (w := w) r2'.1 h
  refine Snd.same S (call_run ho hc ?_) q2
  have hl : (c.args.map a.eval).toList = (ev E x).con j :: AV.conL j (r.map (ev E)) := by
   rw [Array.toList_map, r1]; rfl
  cases mx
  ·simp only [Bool.false_eq_true, if_false, builtin, Builtin.min_, hl, Sem.run_bind]
   rw [q1]; rfl
  ·simp only [if_true, builtin, Builtin.max_, hl, Sem.run_bind]
   rw [q1]; rfl
end
end Go.AX
end
section
namespace Go.AX
open Go
section
variable {P : Program} {base nt : Nat} {D : Nat → Prop} {j : Inj} {H H' : AH} {w : World} {a : Act} {o : Oper} {v : AV} {E : Env}
theorem rd_take {b p n k : Nat} {l : List AV} (h : H.rd b p n = some l) (hk : k ≤ n) : H.rd b p k = some (l.take k) := by
 unfold AH.rd at h ⊢
 split at h
 ·simp only [Option.some.injEq] at h; subst h
  rw [if_pos (by omega), List.take_take, Nat.min_eq_left hk]
 ·cases h
theorem src_run (S : Sim base D j H w) {es n : Nat} {x : AV} {m : List AV} (hx : x.ok D) (h : H.sc es x = some (n, m)) :
  (∀ w2, (Builtin.lenOf (x.con j)).run P w2 = .ok n w2) ∧ (∀ k w2, k ≤ n → w2.heap = w.heap → (Builtin.firstCells es k (x.con j)).run P w2 = .ok (AV.conL j (m.take (k * es))).toArray w2) ∧ AV.okL D m ∧ AV.scL m = true ∧ m.length = n * es := by
 unfold AH.sc at h
 split at h
 ·simp only [Option.some.injEq, Prod.mk.injEq] at h
  obtain ⟨rfl, rfl⟩ := h
  exact ⟨fun w2 => by simp [AV.con, Builtin.lenOf], fun k w2 _ _ => by simp [AV.con, Builtin.firstCells, AV.conL], by simp only [AV.okL], rfl, by simp⟩
 ·rename_i b p n' c
  obtain ⟨l, hl, h⟩ := Option.map_eq_some_iff.1 h
  simp only [Prod.mk.injEq] at h
  obtain ⟨rfl, rfl⟩ := h
  obtain ⟨_, r2, r3, r4⟩ := S.loadCells (P := P) hx hl
  refine ⟨fun w2 => by simp [AV.con, Builtin.lenOf], fun k w2 hk hw => ?_, r2, r3, r4⟩
  have := ((S.world hw).loadCells (P := P) hx (rd_take hl (Nat.mul_le_mul_right es hk))).1
  simpa [AV.con, Builtin.firstCells] using this
 ·rename_i b p q n' es'
  split at h
  ·rename_i hc
   obtain ⟨rfl, hes, hown⟩ := hc
   obtain ⟨l, hl, h⟩ := Option.map_eq_some_iff.1 h
   simp only [Prod.mk.injEq] at h
   obtain ⟨rfl, rfl⟩ := h
   obtain ⟨_, r2, r3, r4⟩ := S.loadCells (P := P) hx hl
   have hfit : p + n' * es' ≤ (H.g b).cells.length := by
    unfold AH.rd at hl; split at hl
    ·assumption
    ·cases hl
   obtain ⟨hcap, hne⟩ := room S hx hes (isRw_own hown) hfit
   refine ⟨fun w2 => by simp only [AV.con, Builtin.lenOf, Sem.run_pure], fun k w2 hk hw => ?_, r2, r3, r4⟩
   have hr := ((S.world hw).loadCells (P := P) hx (rd_take hl (Nat.mul_le_mul_right es' hk))).1
   rw [S.own_at hx hown] at hr
   simp only [AV.con, Builtin.firstCells]
   rcases Nat.eq_zero_or_pos k with h0 | h0
   ·subst h0
    simp [loadCells, loadCellsFrom, AV.conL]
   ·rw [if_neg (hne (by omega))]
    exact hr
  ·cases h
 ·cases h
theorem app_in {t u ty e : TypeId} {i : TypeInfo} (ht : P.underlying t = some (.slice e)) (hu : ∃ e', P.underlying u = some (.slice e')) (hi : P.info? e = some i) {ad : Addr} {k c n : Nat} {x : Value} {m : Array Value} {w' : World}
  (h1 : (Builtin.lenOf x).run P w = .ok n w) (h2 : (Builtin.firstCells i.size n x).run P w = .ok m w) (hroom : k + n ≤ c) (h3 : (storeCells (ad.add (k * i.size)) m.toList).run P w = .ok () w') :
  (Builtin.append_ #[t, u] ty #[.slice (some ad) k c, x]).run P w = .ok (.slice (some ad) (k + n) c) w' := by
 obtain ⟨e', hu⟩ := hu
 simp [Builtin.append_, run_underlying ht, run_underlying hu, sizeOf, typeInfo, hi, h1, hroom, h2, h3]
theorem app_nil {t u ty e : TypeId} {i : TypeInfo} (ht : P.underlying t = some (.slice e)) (hu : ∃ e', P.underlying u = some (.slice e')) (hi : P.info? e = some i) {x : Value} {m : Array Value}
  (h1 : (Builtin.lenOf x).run P w = .ok 0 w) (h2 : (Builtin.firstCells i.size 0 x).run P w = .ok m w) :
  (Builtin.append_ #[t, u] ty #[.slice none 0 0, x]).run P w = .ok (.slice none 0 0) w := by
 obtain ⟨e', hu⟩ := hu
 simp [Builtin.append_, run_underlying ht, run_underlying hu, sizeOf, typeInfo, hi, h1, h2]
theorem app_grow {t u ty e : TypeId} {i : TypeInfo} {z : Value} (ht : P.underlying t = some (.slice e)) (hu : ∃ e', P.underlying u = some (.slice e')) (hi : P.info? e = some i) (hz : i.zero = some z) {ad : Option Addr} {k c n : Nat} {x : Value} {m l : Array Value}
  (h1 : (Builtin.lenOf x).run P w = .ok n w) (hroom : c < k + n) (h2 : (Builtin.firstCells i.size n x).run P w.drew = .ok m w.drew) (h3 : (Builtin.firstCells i.size k (.slice ad k c)).run P w.drew = .ok l w.drew)
  (h63 : ((k + n : Nat) : Int) ≤ 9223372036854775807) (hfit : (k + n) * i.bytes ≤ 140737488355328) :
  (Builtin.append_ #[t, u] ty #[.slice ad k c, x]).run P w = .ok (.slice (some ⟨w.heap.size, 0, none⟩) (k + n) (grownCap w (k + n) c e)) (w.drew.alloc (.cells (l ++ m ++ Builtin.zeroCells z.cells (grownCap w (k + n) c e - (k + n))) e)) := by
 obtain ⟨e', hu⟩ := hu
 have hf := growslice_fits hroom hfit
 have n1 : ¬ (k + n ≤ c) := by omega
 have n2 : ¬ (9223372036854775807 < (k : Int) + (n : Int)) := by omega
 have n3 : ¬ (281474976710656 < Builtin.nextslicecap (k + n) c * i.bytes) := by omega
 have hmax : (IntKind.i64.max : Int) = 9223372036854775807 := by decide
 simp [Builtin.append_, run_underlying ht, run_underlying hu, sizeOf, typeInfo, hi, h1, n1, n2, n3, hmax, Question.forced, h2, h3, zeroValue, hz, newRow, grownCap]
theorem Sim.noB (S : Sim base D j H w) {b : Nat} (hb : D b) (hown : (H.g b).own = true) : Post base D j H w (H.no b) w j := by
 have back : ∀ x, (H.no b).g x ≠ .no → (H.no b).g x = H.g x ∧ x ≠ b := by
  intro x hx
  simp only [AH.no] at hx ⊢
  split at hx
  ·exact absurd rfl hx
  ·rename_i hne; exact ⟨by rw [if_neg hne], hne⟩
 refine ⟨⟨Nat.le_refl _, ?_, ?_, ?_⟩, fun _ _ => rfl, Sim.iffD (D := D) ⟨S.lt, fun x hx => by simp only [AH.no] at hx ⊢; split; rfl; exact S.wf x hx, S.size, ?_, ?_, ?_, ?_⟩ (fun x => Dnew.self), Fr.refl .., fun x h1 h2 _ => by simp only [AH.no] at h2; omega⟩
 ·intro x hx h; simp only [AH.no]; split <;> simp [h]
 ·intro x l hx h
  simp only [AH.no]
  rw [if_neg (fun e => by subst e; rw [h] at hown; simp [Blk.own] at hown)]; exact h
 ·intro x hx h; simp only [AH.no]; split
  ·exact .inl rfl
  ·exact .inr h
 ·intro x l hx h
  rw [(back x (by rw [h]; simp)).1] at h
  exact S.ro x l hx h
 ·intro x l hx h
  rw [(back x (by rw [h]; simp)).1] at h
  exact S.rw x l hx h
 ·intro x l hx h
  rw [(back x (by rw [h]; simp)).1] at h
  exact S.mp x l hx h
 ·intro x x' hx hx' h h' hk
  have hx1 := (back x (fun e => by rw [e] at h; simp [Blk.own] at h)).1
  have hx2 := (back x' h').1
  rw [hx1] at h
  rw [hx2] at h'
  exact S.inj x x' hx hx' h h' hk
theorem Sim.take (S : Sim base D j H w) {b : Nat} (hb : D b) {l l' : List AV} (hg : H.g b = .rw l) (hl : AV.okL D l') (hs : AV.scL l' = true)
  {w' : World} {t : TypeId} {fr : Nat × Nat} {cs cs' : Array Value} (hw0 : w.heap[(j b).k]? = some (.cells cs t fr)) (hw : w'.heap[(j b).k]? = some (.cells cs' t fr)) (hsz : cs'.size = cs.size) (hlen : l'.length ≤ cs.size)
  (hcs : ∀ (i : Nat) v, (AV.conL j l')[i]? = some v → cs'[i]? = some v)
  (hother : ∀ k, k ≠ (j b).k → w'.heap[k]? = w.heap[k]?) (hsize : w'.heap.size = w.heap.size) (hos : w'.os = w.os) (htape : w'.tape = w.tape) (hout : w'.output = w.output) :
  Post base D j H w ((H.al l').no b) w' (j.put H.nx (j b)) := by
 have hbn : b < H.nx := S.lt b hb
 have hold : ∀ x, D x → x ≠ b → H.g x ≠ .no → (j x).k ≠ (j b).k := fun x hx hne hn e => hne (S.inj b x hb hx (by rw [hg]; rfl) hn e)
 obtain ⟨⟨cs0, t0, fr0, g1, g2, g5, g6, g7⟩, g3, g4, g8⟩ := S.rw b l hb hg
 rw [hw0] at g1
 simp only [Option.some.injEq, Obj.cells.injEq] at g1
 obtain ⟨rfl, rfl, rfl⟩ := g1
 have hD : ∀ x, Dnew D H ((H.al l').no b) x → x = H.nx ∨ (D x ∧ x < H.nx) := by
  rintro x (hx | ⟨h1, h2⟩)
  ·exact .inr ⟨hx, S.lt x hx⟩
  ·simp only [AH.al, AH.no] at h2; exact .inl (by omega)
 have hG : ∀ x, x < H.nx → ((H.al l').no b).g x = if x = b then .no else H.g x := by
  intro x hx; simp only [AH.al, AH.no]; split
  ·rfl
  ·rw [if_neg (by omega)]
 have hGn : ((H.al l').no b).g H.nx = .rw l' := by
  simp only [AH.al, AH.no]; rw [if_neg (by omega), if_pos trivial]
 have hJ : ∀ x, x < H.nx → (j.put H.nx (j b)) x = j x := fun x hx => by simp only [Inj.put]; rw [if_neg (by omega)]
 have hJn : (j.put H.nx (j b)) H.nx = j b := by simp [Inj.put]
 refine ⟨⟨by simp [AH.al, AH.no], ?_, ?_, ?_⟩, fun x hx => hJ x (S.lt x hx), ⟨?_, ?_, ?_, ?_, ?_, ?_, ?_⟩, ⟨hos, htape, hout, by omega, ?_⟩, ?_⟩
 ·intro x hx h; rw [hG x hx, h]; split <;> rfl
 ·intro x lx hx h
  rw [hG x hx, if_neg (fun e => by subst e; rw [hg] at h; cases h)]; exact h
 ·intro x hx h
  rw [hG x hx]; split
  ·exact .inl rfl
  ·exact .inr h
 ·intro x hx
  rcases hD x hx with rfl | ⟨_, h⟩ <;> simp only [AH.al, AH.no] <;> omega
 ·intro x hx
  simp only [AH.al, AH.no] at hx ⊢
  split
  ·rfl
  ·rw [if_neg (by omega)]; exact S.wf x (by omega)
 ·rw [hsize]; exact S.size
 ·intro x lx hx h
  rcases hD x hx with rfl | ⟨hx', hlt⟩
  ·rw [hGn] at h; cases h
  ·rw [hG x hlt] at h
   split at h
   ·cases h
   ·rename_i hne
    obtain ⟨⟨cs1, t1, fr1, h1, h2⟩, h3, h4⟩ := S.ro x lx hx' h
    rw [conL_put S.lt _ h3, hJ x hlt]
    exact ⟨⟨cs1, t1, fr1, by rw [hother _ (hold x hx' hne (by rw [h]; simp))]; exact h1, h2⟩, okL_Dnew h3, h4⟩
 ·intro x lx hx h
  rcases hD x hx with rfl | ⟨hx', hlt⟩
  ·rw [hGn] at h
   simp only [Blk.rw.injEq] at h; subst h
   rw [conL_put S.lt _ hl, hJn]
   exact ⟨⟨cs', _, _, hw, hcs, by omega, by rw [conL_length]; omega, by rw [hsz]; exact g7⟩, okL_Dnew hl, hs, g8⟩
  ·rw [hG x hlt] at h
   split at h
   ·cases h
   ·rename_i hne
    obtain ⟨⟨cs1, t1, fr1, h1, h2⟩, h3, h4⟩ := S.rw x lx hx' h
    rw [conL_put S.lt _ h3, hJ x hlt]
    exact ⟨⟨cs1, t1, fr1, by rw [hother _ (hold x hx' hne (by rw [h]; simp))]; exact h1, h2⟩, okL_Dnew h3, h4⟩
 ·intro x lx hx h
  rcases hD x hx with rfl | ⟨hx', hlt⟩
  ·rw [hGn] at h; cases h
  ·rw [hG x hlt] at h
   split at h
   ·cases h
   ·rename_i hne
    obtain ⟨⟨en, c, h1, h2⟩, h3, h4⟩ := S.mp x lx hx' h
    rw [conM_congr (j := j) (fun y hy => hJ y (S.lt y hy)) h3, hJ x hlt]
    exact ⟨⟨en, c, by rw [hother _ (hold x hx' hne (by rw [h]; simp))]; exact h1, h2⟩, okM_mono (fun _ => .inl) h3, h4⟩
 ·intro x x' hx hx' h h' hk
  rcases hD x hx with rfl | ⟨hx1, hlt⟩
  ·rcases hD x' hx' with rfl | ⟨hx2, hlt'⟩
   ·rfl
   ·exfalso
    rw [hG x' hlt'] at h'
    split at h'
    ·exact h' rfl
    ·rename_i hne
     rw [hJn, hJ x' hlt'] at hk
     exact hold x' hx2 hne h' hk
  ·rw [hG x hlt] at h
   split at h
   ·simp [Blk.own] at h
   ·rename_i hne
    rcases hD x' hx' with rfl | ⟨hx2, hlt'⟩
    ·exfalso
     rw [hJn, hJ x hlt] at hk
     exact hold x hx1 hne (fun e => by rw [e] at h; simp [Blk.own] at h) hk.symm
    ·rw [hG x' hlt'] at h'
     split at h'
     ·exact absurd rfl h'
     ·rw [hJ x hlt, hJ x' hlt'] at hk
      exact S.inj x x' hx1 hx2 h h' hk
 ·intro k hk hn
  exact hother k (fun e => hn b hb (by rw [hg]; rfl) e.symm)
 ·intro x h1 h2 _
  simp only [AH.al, AH.no] at h2
  obtain rfl : x = H.nx := by omega
  refine .inr ⟨b, hb, by rw [hg]; rfl, ?_, by rw [hJn]⟩
  rw [hG b hbn, if_pos rfl]
theorem okL_append {l m : List AV} (h1 : AV.okL D l) (h2 : AV.okL D m) : AV.okL D (l ++ m) := by
 rw [okL_iff] at *
 intro v hv
 rcases List.mem_append.1 hv with hv | hv
 ·exact h1 v hv
 ·exact h2 v hv
theorem scL_append {l m : List AV} (h1 : AV.scL l = true) (h2 : AV.scL m = true) : AV.scL (l ++ m) = true := by
 simp only [AV.scL, List.all_append, Bool.and_eq_true] at *
 exact ⟨h1, h2⟩
theorem grown_post (S : Sim base D j H w) {l : List AV} (hl : AV.okL D l) (hs : AV.scL l = true) (e : TypeId) (zs : Array Value) :
  Post base D j H w (H.al l) (w.drew.alloc (.cells ((AV.conL j l).toArray ++ zs) e)) (j.put H.nx (.new w.heap.size (l.length + zs.size))) := by
 have := S.alloc hl hs ((AV.conL j l).toArray ++ zs) e (0, 0) (w.drawn + 1) (fun i v hi => by
  rw [Array.getElem?_append_left (by
   have := (List.getElem?_eq_some_iff.1 hi).1
   simpa using this)]
  simpa using hi) (by simp [conL_length]) (.inl rfl) (w' := w.drew.alloc (.cells ((AV.conL j l).toArray ++ zs) e)) rfl
 simpa [conL_length] using this
theorem zc_size {z : Array Value} {n : Nat} : (Builtin.zeroCells z n).size = n * z.size := by simp [Builtin.zeroCells]
theorem sg_con {n es cap len : Nat} {c : CB} (hc : c.e = cap * es) (hes : 0 < es) : (AV.sg H.nx 0 0 n es).con (j.put H.nx c) = .slice (some ⟨c.k, 0, none⟩) n cap := by
 simp only [AV.con, Inj.put, if_true, Nat.sub_zero, hc, Nat.mul_div_cancel _ hes]
 split <;> rfl
theorem snd_app (R : Rel nt D j E a.tmps) (S : Sim base D j H w) {s x : Operand} {s' x' : Opd} {t u e : TypeId} {i : TypeInfo} {c : Call} (ho : o.op = .call c) (hc : c.callee = .builtin .append) (htu : c.argTypes.toList = [t, u]) (hx : c.args.toList = [s, x])
  (ht : P.underlying t = some (.slice e)) (hu : ∃ e', P.underlying u = some (.slice e')) (hi : P.info? e = some i) (hes : 0 < i.size) (hby : 0 < i.bytes) (hzl : (zerT P e).map List.length = some i.size)
  (hs' : resO nt s = some s') (hx' : resO nt x = some x') {n : Nat} {m : List AV} (hsc : H.sc i.size (ev E x') = some (n, m)) (h : vapp i.size i.bytes H (ev E s') n m = some (v, H')) : Snd P base D j H w a.eval o v H' := by
 obtain ⟨s1, s2⟩ := R.ev hs'
 obtain ⟨x1, x2⟩ := R.ev hx'
 obtain ⟨z, hz, hzlen⟩ := Option.map_eq_some_iff.1 hzl
 obtain ⟨i', zv, hi', hzv, hzc, _, _⟩ := zerT_built hz j D
 rw [hi] at hi'
 obtain rfl := Option.some.inj hi'
 obtain ⟨src1, src2, src3, src4, src5⟩ := src_run (P := P) S x2 hsc
 have srcN : ∀ w2 : World, w2.heap = w.heap → (Builtin.firstCells i.size n ((ev E x').con j)).run P w2 = .ok (AV.conL j m).toArray w2 := by
  intro w2 hw2
  have := src2 n w2 (Nat.le_refl _) hw2
  rwa [List.take_of_length_le (by omega)] at this
 have htu' : c.argTypes = #[t, u] := by apply Array.ext'; simpa using htu
 have fin : ∀ (vv : AV) HH w' j', (Builtin.append_ #[t, u] o.type #[a.eval s, a.eval x]).run P w = .ok (vv.con j') w' → vv.ok (Dnew D H HH) → Post base D j H w HH w' j' → Snd P base D j H w a.eval o vv HH := by
  intro vv HH w' j' hr hv hp
  refine ⟨_, w', j', call_run ho hc (r := .ok (.value (vv.con j')) w') ?_, .inl rfl, hv, hp⟩
  simp [builtin, args_two hx, htu', hr]
 have hzsz : zv.cells.size = i.size := by rw [hzc]; simp [conL_length, hzlen]
 have grow : ∀ (vs : AV) (ad : Option Addr) (k cp : Nat) (l : List AV), vs.con j = .slice ad k cp → cp < k + n → (Builtin.firstCells i.size k (.slice ad k cp)).run P w.drew = .ok (AV.conL j l).toArray w.drew → AV.okL D l → AV.scL l = true → l.length = k * i.size →
   a.eval s = vs.con j → (k + n) * i.bytes ≤ 140737488355328 →
   ∃ w' c', Post base D j H w (H.al (l ++ m)) w' (j.put H.nx c') ∧ (Builtin.append_ #[t, u] o.type #[a.eval s, a.eval x]).run P w = .ok ((AV.sg H.nx 0 0 (k + n) i.size).con (j.put H.nx c')) w' ∧ w.heap.size ≤ c'.k := by
  intro vs ad k cp l hvs hcp hfc hl1 hl2 hl3 hse hb
  have h63 : ((k + n : Nat) : Int) ≤ 9223372036854775807 := by
   have : k + n ≤ (k + n) * i.bytes := Nat.le_mul_of_pos_right _ hby
   omega
  have hg := app_grow (P := P) (w := w) (ty := o.type) ht hu hi hzv (ad := ad) (k := k) (c := cp) (src1 w) hcp (srcN w.drew rfl) hfc h63 hb
  have hcat : (AV.conL j l).toArray ++ (AV.conL j m).toArray = (AV.conL j (l ++ m)).toArray := by simp [conL_append]
  rw [hcat] at hg
  have hp := grown_post S (okL_append hl1 src3) (scL_append hl2 src4) e (Builtin.zeroCells zv.cells (grownCap w (k + n) cp e - (k + n)))
  refine ⟨_, _, hp, ?_, Nat.le_refl _⟩
  rw [hse, hvs, x1, hg]
  have hge := grownCap_ge w (k + n) cp e
  have hcon := sg_con (j := j) (H := H) (n := k + n) (es := i.size) (cap := grownCap w (k + n) cp e) (len := 0) (c := .new w.heap.size ((l ++ m).length + (Builtin.zeroCells zv.cells (grownCap w (k + n) cp e - (k + n))).size)) (by
   simp only [List.length_append, hl3, src5, zc_size, hzsz]
   rw [← Nat.add_mul, ← Nat.add_mul]
   congr 1
   omega) hes
  rw [hcon]
 generalize hsv : ev E s' = vs at *
 unfold vapp at h
 split at h
 ·-- nil
  split at h
  ·rename_i h0
   simp only [Option.some.injEq, Prod.mk.injEq] at h
   obtain ⟨rfl, rfl⟩ := h
   subst h0
   refine fin .sn H w j ?_ (by simp [AV.ok]) (Post.refl S)
   rw [s1, x1]
   exact app_nil ht hu hi (src1 w) (srcN w rfl)
  ·rename_i h0
   split at h
   ·rename_i hb
    simp only [Option.some.injEq, Prod.mk.injEq] at h
    obtain ⟨rfl, rfl⟩ := h
    obtain ⟨w', c', hp, hr, _⟩ := grow .sn none 0 0 [] rfl (by omega) (by simp [Builtin.firstCells, AV.conL]) (by simp only [AV.okL]) rfl (by simp) s1 (by simpa using hb)
    simp only [Nat.zero_add, List.nil_append] at hp hr
    exact fin _ _ w' _ hr dnew_nx hp
   ·cases h
 ·-- a slice whose room is known
  rename_i b p k cp
  split at h
  ·rename_i h0
   split at h
   ·rename_i hk
    simp only [Option.some.injEq, Prod.mk.injEq] at h
    obtain ⟨rfl, rfl⟩ := h
    subst h0
    refine fin _ H w j ?_ (ok_Dnew s2) (Post.refl S)
    rw [s1, x1]
    have hm0 : m = [] := List.eq_nil_of_length_eq_zero (by simpa using src5)
    have hsr := srcN w rfl
    rw [hm0] at hsr
    have := app_in (P := P) (w := w) (w' := w) (ty := o.type) (ad := ((j b).at p)) (k := k) (c := cp) ht hu hi (src1 w) hsr (by omega) (by simp [AV.conL, storeCells])
    simpa [AV.con] using this
   ·cases h
  ·rename_i h0
   split at h
   ·rename_i hroom
    obtain ⟨H1, hw, h⟩ := Option.map_eq_some_iff.1 h
    simp only [Prod.mk.injEq] at h
    obtain ⟨rfl, rfl⟩ := h
    obtain ⟨w', r, pst⟩ := S.store (P := P) s2 hw src3 src4
    refine fin _ H1 w' j ?_ (ok_Dnew s2) pst
    rw [s1, x1]
    exact app_in ht hu hi (src1 w) (srcN w rfl) hroom (by rw [at_add]; simpa using r)
   ·rename_i hroom
    split at h
    ·rename_i hb
     obtain ⟨l, hl, h⟩ := Option.map_eq_some_iff.1 h
     simp only [Prod.mk.injEq] at h
     obtain ⟨rfl, rfl⟩ := h
     obtain ⟨l1, l2, l3, l4⟩ := (S.world (w' := w.drew) rfl).loadCells (P := P) s2 hl
     obtain ⟨w', c', hp, hr, _⟩ := grow (.sl b p k cp) (some ((j b).at p)) k cp l rfl (by omega) (by simpa [Builtin.firstCells] using l1) l2 l3 l4 s1 hb
     exact fin _ _ w' _ hr dnew_nx hp
    ·cases h
 ·-- one whose room isn't known
  rename_i b p q k es'
  split at h
  ·rename_i hcond
   obtain ⟨rfl, _, hfit, hrw⟩ := hcond
   have hown : (H.g b).own = true := by
    cases hg : H.g b <;> rw [hg] at hrw <;> simp [Blk.isRw, Blk.own] at hrw ⊢
   obtain ⟨hcap, hne⟩ := room S s2 hes hown hfit
   have hs1 : a.eval s = .slice (some ⟨(j b).k, if ((j b).e - p) / i.size = 0 then q else p, none⟩) k (((j b).e - p) / i.size) := by simpa only [AV.con] using s1
   split at h
   ·rename_i h0
    simp only [Option.some.injEq, Prod.mk.injEq] at h
    obtain ⟨rfl, rfl⟩ := h
    subst h0
    refine fin _ H w j ?_ (ok_Dnew s2) (Post.refl S)
    rw [hs1, x1]
    have hm0 : m = [] := List.eq_nil_of_length_eq_zero (by simpa using src5)
    have hsr := srcN w rfl
    rw [hm0] at hsr
    have := app_in (P := P) (w := w) (w' := w) (ty := o.type) (ad := ⟨(j b).k, if ((j b).e - p) / i.size = 0 then q else p, none⟩) (k := k) (c := ((j b).e - p) / i.size) ht hu hi (src1 w) hsr (by omega) (by simp [AV.conL, storeCells])
    simpa only [AV.con, Nat.add_zero] using this
   ·rename_i h0
    split at h
    ·rename_i hin
     obtain ⟨H1, hw, h⟩ := Option.map_eq_some_iff.1 h
     simp only [Prod.mk.injEq] at h
     obtain ⟨rfl, rfl⟩ := h
     obtain ⟨w', r, pst⟩ := S.store_k (P := P) s2 hw src3 src4
     obtain ⟨hcap2, hne2⟩ := room S s2 hes hown hin
     have hz := hne2 (by omega)
     refine fin _ H1 w' j ?_ (ok_Dnew s2) pst
     rw [hs1, x1, if_neg hz]
     have := app_in (P := P) (w := w) (w' := w') (ty := o.type) (ad := ⟨(j b).k, p, none⟩) (k := k) (c := ((j b).e - p) / i.size) ht hu hi (src1 w) (srcN w rfl) hcap2 (by rw [addr_add]; simpa using r)
     rw [this]
     simp only [AV.con, if_neg hz]
    ·rename_i hin
     split at h
     ·rename_i hc2
      obtain ⟨rfl, rfl, hb⟩ := hc2
      obtain ⟨l, hl, h⟩ := Option.map_eq_some_iff.1 h
      simp only [Prod.mk.injEq] at h
      obtain ⟨rfl, rfl⟩ := h
      have hs1' : a.eval s = .slice (some ⟨(j b).k, 0, none⟩) k ((j b).e / i.size) := by
       rw [hs1]; simp
      by_cases hroom : k + n ≤ (j b).e / i.size
      ·-- in place
       cases hg : H.g b with
       | no => rw [hg] at hown; simp [Blk.own] at hown
       | ro l => rw [hg] at hown; simp [Blk.own] at hown
       | mp es => rw [hg] at hrw; simp [Blk.isRw] at hrw
       | rw l0 =>
        obtain ⟨⟨cs, t', fr, g1, g2, g5, g6, g7⟩, g3, g4, g8⟩ := S.rw b l0 s2 hg
        have hle : (k + n) * i.size ≤ (j b).e := by
         have := Nat.mul_le_mul_right i.size hroom
         have := Nat.div_mul_le_self (j b).e i.size
         omega
        have hlen : ∀ q, q < (AV.conL j m).length → k * i.size + q < cs.size := fun q hq => by rw [conL_length, src5] at hq; rw [Nat.add_mul] at hle; omega
        unfold AH.rd at hl
        rw [hg] at hl
        simp only [Blk.cells, Nat.zero_add, List.drop_zero] at hl
        split at hl
        ·rename_i hk
         simp only [Option.some.injEq] at hl; subst hl
         have hst := run_storeCells_cells (P := P) (j b).k (k * i.size) (AV.conL j m) 0 w (fun q hq => by have := hlen q hq; simp [World.cell?, g1, this]) (fun q hq => by have := hlen q hq; simp [World.frozen?, g1]; intro; omega) (conL_one src4)
         simp only [Nat.add_zero] at hst
         have hr := setCells_rest (j b).k (AV.conL j m) (k * i.size) w
         have hpost := Sim.take S s2 hg (l' := l0.take (k * i.size) ++ m) (w' := w.setCells (j b).k (k * i.size) (AV.conL j m))
          (okL_append (okL_iff.2 fun v hv => okL_iff.1 g3 v (List.mem_of_mem_take hv)) src3)
          (scL_append (List.all_eq_true.2 fun v hv => List.all_eq_true.1 g4 v (List.mem_of_mem_take hv)) src4)
          g1 (setCells_heap (j b).k t' fr (AV.conL j m) (k * i.size) w cs g1) (writeAll_size _ _ _)
          (by simp only [List.length_append, List.length_take, src5]; rw [Nat.add_mul] at hle; omega)
          (by
           intro y vv hy
           rw [writeAll_get _ _ _ _ (by rw [conL_length, src5, ← Nat.add_mul]; omega)]
           rw [conL_get] at hy
           obtain ⟨av, hav, rfl⟩ := Option.map_eq_some_iff.1 hy
           have hmin : min (k * i.size) l0.length = k * i.size := by omega
           by_cases h1 : y < k * i.size
           ·rw [if_neg (by omega)]
            rw [List.getElem?_append_left (by simp; omega), List.getElem?_take_of_lt h1] at hav
            exact g2 y _ (by rw [conL_get, hav]; rfl)
           ·rw [List.getElem?_append_right (by simp; omega)] at hav
            simp only [List.length_take, hmin] at hav
            have hlt := (List.getElem?_eq_some_iff.1 hav).1
            rw [if_pos (by rw [conL_length]; omega), conL_get, hav]; rfl)
          (fun y hy => setCells_heap_other _ y hy _ _ _) (setCells_size _ _ _ _) hr.1 hr.2.1 hr.2.2
         refine fin _ _ _ _ ?_ (.inr ⟨Nat.le_refl _, by simp [AH.al, AH.no]⟩) hpost
         rw [hs1', x1]
         have := app_in (P := P) (w := w) (w' := w.setCells (j b).k (k * i.size) (AV.conL j m)) (ty := o.type) (ad := ⟨(j b).k, 0, none⟩) (k := k) (c := (j b).e / i.size) ht hu hi (src1 w) (srcN w rfl) hroom (by rw [addr_add]; simpa using hst)
         rw [this]
         simp [AV.con, Inj.put]
        ·cases hl
      ·-- a new row
       obtain ⟨l1, l2, l3, l4⟩ := (S.world (w' := w.drew) rfl).loadCells (P := P) s2 hl
       rw [S.own_at s2 hrw] at l1
       obtain ⟨w', c', hp, hr, _⟩ := grow (.sg b 0 0 k i.size) (some ⟨(j b).k, 0, none⟩) k ((j b).e / i.size) l (by rw [← s1, hs1']) (by omega) (by simpa [Builtin.firstCells] using l1) l2 l3 l4 s1 hb
       have hb' : Dnew D H (H.al (l ++ m)) b := .inl s2
       have hlt := S.lt b s2
       have hown' : ((H.al (l ++ m)).g b).own = true := by simp only [AH.al]; rw [if_neg (by omega)]; exact hown
       have hp2 := hp.trans (Sim.noB hp.sim hb' hown') S.lt
       exact fin _ _ w' _ hr (.inr ⟨Nat.le_refl _, by simp [AH.al, AH.no]⟩) hp2
     ·cases h
  ·cases h
 ·cases h
end
end Go.AX
end
section
namespace Go.AX
open Go Go.RowKit
theorem below_hold {w w' : World} (h : Below w.heap.size w w') {k : Nat} {o : Obj} (hk : w.heap[k]? = some o) : w'.heap[k]? = some o := (h.block k (Array.getElem?_eq_some_iff.1 hk).1).trans hk
theorem Sim.below {base : Nat} {D : Nat → Prop} {j : Inj} {H : AH} {w w' : World} (S : Sim base D j H w) (h : Below w.heap.size w w') : Sim base D j H w' := by
 refine ⟨S.lt, S.wf, Nat.le_trans S.size h.size, fun b l hb hg => ?_, fun b l hb hg => ?_, fun b l hb hg => ?_, S.inj⟩
 ·obtain ⟨⟨cs, t, fr, h1, h2⟩, h3, h4⟩ := S.ro b l hb hg
  exact ⟨⟨cs, t, fr, below_hold h h1, h2⟩, h3, h4⟩
 ·obtain ⟨⟨cs, t, fr, h1, h2⟩, h3, h4⟩ := S.rw b l hb hg
  exact ⟨⟨cs, t, fr, below_hold h h1, h2⟩, h3, h4⟩
 ·obtain ⟨⟨en, c, h1, h2⟩, h3, h4⟩ := S.mp b l hb hg
  exact ⟨⟨en, c, below_hold h h1, h2⟩, h3, h4⟩
theorem Post.below {base : Nat} {D : Nat → Prop} {j : Inj} {H : AH} {w w' : World} (S : Sim base D j H w) (h : Below w.heap.size w w') : Post base D j H w H w' j :=
 ⟨Evo.refl H, fun _ _ => rfl, (S.below h).iffD fun _ => Dnew.self, ⟨h.os, h.tape, h.output, h.size, fun k hk _ => h.block k hk⟩, fun b h1 h2 _ => by omega⟩
theorem Post.adopt {base : Nat} {D : Nat → Prop} {j : Inj} {H : AH} {w w' : World} (S0 : Sim base D j H w) (h : Below w.heap.size w w') {l : List AV} (hl : AV.okL D l) (hs : AV.scL l = true)
  {g : Nat} {cs : Array Value} {t : TypeId} (hg0 : w.heap.size ≤ g) {fr : Nat × Nat} (hfr : fr.1 = fr.2 ∨ cs.size ≤ fr.1) (hgc : w'.heap[g]? = some (.cells cs t fr)) (hcs : ∀ (i : Nat) v, (AV.conL j l)[i]? = some v → cs[i]? = some v) (hsz : l.length ≤ cs.size) :
  Post base D j H w (H.al l) w' (j.put H.nx (.new g cs.size)) := by
 have S := S0.below h
 have hold : ∀ b, b ≠ H.nx → (j.put H.nx (.new g cs.size)) b = j b := fun b hb => by simp only [Inj.put]; rw [if_neg hb]
 have hrow : ∀ {b : Nat}, D b → H.g b ≠ .no → (j b).k < g := fun hb hn => Nat.lt_of_lt_of_le (S0.row_lt hb hn) hg0
 have hD : ∀ b, Dnew D H (H.al l) b → b = H.nx ∨ (D b ∧ b < H.nx) := by
  rintro b (hb | ⟨h1, h2⟩)
  ·exact .inr ⟨hb, S.lt b hb⟩
  ·simp only [AH.al] at h2; exact .inl (by omega)
 refine ⟨Evo.al H l, fun b hb => hold b (by have := S.lt b hb; omega), ⟨?_, ?_, ?_, ?_, ?_, ?_, ?_⟩, ⟨h.os, h.tape, h.output, h.size, fun k hk _ => h.block k hk⟩, ?_⟩
 ·intro b hb
  rcases hD b hb with rfl | ⟨_, h⟩ <;> simp only [AH.al] <;> omega
 ·intro b hb
  simp only [AH.al] at hb ⊢
  rw [if_neg (by omega)]
  exact S.wf b (by omega)
 ·exact S.size
 ·intro b l' hb hg
  rcases hD b hb with rfl | ⟨hb', h⟩
  ·simp [AH.al] at hg
  ·simp only [AH.al] at hg
   rw [if_neg (by omega)] at hg
   obtain ⟨h2, h3, h4⟩ := S.ro b l' hb' hg
   rw [conL_put S.lt _ h3, hold b (by omega)]
   exact ⟨h2, okL_Dnew h3, h4⟩
 ·intro b l' hb hg
  rcases hD b hb with rfl | ⟨hb', h⟩
  ·simp only [AH.al, if_true, Blk.rw.injEq] at hg
   subst hg
   rw [conL_put S.lt _ hl]
   refine ⟨⟨cs, t, fr, ?_, hcs, ?_, ?_, hfr⟩, okL_Dnew hl, hs, ?_⟩
   ·simpa [Inj.put] using hgc
   ·simp [Inj.put]
   ·simp [Inj.put, conL_length]; exact hsz
   ·simp [Inj.put]; exact Nat.le_trans S0.size hg0
  ·simp only [AH.al] at hg
   rw [if_neg (by omega)] at hg
   obtain ⟨h2, h3, h4, h8⟩ := S.rw b l' hb' hg
   rw [conL_put S.lt _ h3, hold b (by omega)]
   exact ⟨h2, okL_Dnew h3, h4, h8⟩
 ·intro b l' hb hg
  rcases hD b hb with rfl | ⟨hb', h⟩
  ·simp [AH.al] at hg
  ·simp only [AH.al] at hg
   rw [if_neg (by omega)] at hg
   obtain ⟨h2, h3, h4⟩ := S.mp b l' hb' hg
   rw [hold b (by omega), conM_congr (j := j) (fun x hx => hold x (by have := S.lt x hx; omega)) h3]
   exact ⟨h2, okM_mono (fun _ => .inl) h3, h4⟩
 ·intro b b' hb hb' hg hg' hk
  rcases hD b hb with rfl | ⟨hb1, h⟩
  ·rcases hD b' hb' with rfl | ⟨hb2, h'⟩
   ·rfl
   ·exfalso
    simp only [AH.al] at hg'
    rw [if_neg (by omega)] at hg'
    have h3 := hrow hb2 hg'
    simp only [Inj.put, if_true] at hk
    rw [if_neg (by omega)] at hk
    omega
  ·simp only [AH.al] at hg
   rw [if_neg (by omega)] at hg
   rcases hD b' hb' with rfl | ⟨hb2, h'⟩
   ·exfalso
    have h3 := hrow hb1 (fun e => by rw [e] at hg; simp [Blk.own] at hg)
    simp only [Inj.put, if_true] at hk
    rw [if_neg (by omega)] at hk
    omega
   ·simp only [AH.al] at hg'
    rw [if_neg (by omega)] at hg'
    simp only [Inj.put] at hk
    rw [if_neg (by omega), if_neg (by omega)] at hk
    exact S.inj b b' hb1 hb2 hg hg' hk
 ·intro b h1 h2 _
  simp only [AH.al] at h2
  obtain rfl : b = H.nx := by omega
  exact .inl (by simp [Inj.put]; exact hg0)
section
variable {P : Program} {base nt : Nat} {D : Nat → Prop} {j : Inj} {H H' : AH} {w : World} {a : Act} {o : Oper} {v : AV} {E : Env}
theorem u8s_con : ∀ {l : List AV} {ns : List Int}, u8s l = some ns → AV.conL j l = ns.map (Value.int .u8)
 | [], ns, h => by cases h; rfl
 | v :: r, ns, h => by
  unfold u8s at h
  split at h
  ·cases ‹v :: r = []›
  ·rename_i n r' he
   cases he
   obtain ⟨ns', h1, rfl⟩ := Option.map_eq_some_iff.1 h
   simp only [AV.conL, AV.con, List.map_cons, u8s_con h1]
  ·cases h
theorem isU8_of {e : TypeId} (h : isU8 P e = true) : P.underlying e = some (.int .u8) := by
 unfold isU8 at h
 split at h
 ·assumption
 ·cases h
theorem snd_b2s (R : Rel nt D j E a.tmps) (S : Sim base D j H w) {s d e : TypeId} {x : Operand} {x' : Opd} (ho : o.op = .convert s d x) (hs : P.underlying s = some (.slice e)) (hd : P.underlying d = some .string) (he : isU8 P e = true) (hx : resO nt x = some x') (h : vb2s H (ev E x') = some v) :
  Snd P base D j H w a.eval o v H := by
 obtain ⟨x1, x2⟩ := R.ev hx
 obtain ⟨⟨n, m⟩, h1, h2⟩ := Option.bind_eq_some_iff.1 h
 obtain ⟨ns, h3, rfl⟩ := Option.map_eq_some_iff.1 h2
 obtain ⟨_, k2, _, _, k5⟩ := src_run (P := P) S x2 h1
 have k := k2 n w (Nat.le_refl _) rfl
 rw [List.take_of_length_le (by omega), u8s_con h3] at k
 have fin : ∀ ad n' c, (ev E x').con j = .slice (some ad) n' c → n' = n → (Conv.bytesToString (.slice (some ad) n' c)).run P w = .ok (.string (bst ns)) w := by
  intro ad n' c hc hn
  subst hn
  rw [hc] at k
  exact run_bytesToString w ad n' c ns (by simpa [Builtin.firstCells] using k)
 have key : (convert s d ((ev E x').con j)).run P w = .ok (.string (bst ns)) w := by
  generalize ev E x' = u at *
  cases u <;> simp only [AH.sc, reduceCtorEq] at h1
  ·simp only [Option.some.injEq, Prod.mk.injEq] at h1
   obtain ⟨rfl, rfl⟩ := h1
   simp only [u8s, Option.some.injEq] at h3
   subst h3
   simp only [AV.con]
   rw [run_convert_bytes_string w s d e none 0 0 hs (isU8_of he) hd]
   simp [Conv.bytesToString, bst]
  ·obtain ⟨l, hl, h1⟩ := Option.map_eq_some_iff.1 h1
   simp only [Prod.mk.injEq] at h1
   simp only [AV.con] at fin ⊢
   rw [run_convert_bytes_string w s d e _ _ _ hs (isU8_of he) hd]
   exact fin _ _ _ rfl h1.1
  ·split at h1
   ·obtain ⟨l, hl, h1⟩ := Option.map_eq_some_iff.1 h1
    simp only [Prod.mk.injEq] at h1
    simp only [AV.con] at fin ⊢
    rw [run_convert_bytes_string w s d e _ _ _ hs (isU8_of he) hd]
    exact fin _ _ _ rfl h1.1
   ·cases h1
 refine Snd.same S ?_ (by simp [AV.ok])
 simp only [execOp, ho, x1, AV.con, Sem.run_bind, key, Result.andThen_ok, Sem.run_pure]
theorem sbs_len {s : ByteArray} : (sbs s).length = s.size := by simp [sbs]
theorem snd_s2b (R : Rel nt D j E a.tmps) (S : Sim base D j H w) {s d e : TypeId} {x : Operand} {x' : Opd} (ho : o.op = .convert s d x) (hs : P.underlying s = some .string) (hd : P.underlying d = some (.slice e)) (he : isU8 P e = true) (hx : resO nt x = some x') (h : vs2b H (ev E x') = some (v, H')) :
  Snd P base D j H w a.eval o v H' := by
 obtain ⟨x1, x2⟩ := R.ev hx
 generalize ev E x' = u at *
 cases u <;> simp only [vs2b, reduceCtorEq, Option.some.injEq, Prod.mk.injEq] at h
 rename_i b
 obtain ⟨rfl, rfl⟩ := h
 have r := Go.Lib.run_convert_string_bytes (P := P) w s d e b hs hd (isU8_of he)
 have hge := grownCap_ge w b.size 0 e
 have hsz : (Go.Lib.bytesCells w e b).size = grownCap w b.size 0 e := by
  simp only [Go.Lib.bytesCells, Array.size_append, Array.size_map, Array.size_replicate]
  have : b.data.size = b.size := rfl
  omega
 have hb : Below w.heap.size w (Go.Lib.bytesWorld w e b) := ⟨rfl, rfl, rfl, by rw [Go.Lib.bytesWorld_size]; omega, fun k hk => Go.Lib.bytesWorld_at_old w e b k hk⟩
 have hlen : ((sbs b).map (AV.it .u8)).length = b.size := by rw [List.length_map, sbs_len]
 have p := Post.adopt S hb (l := (sbs b).map (AV.it .u8)) (okL_iff.2 fun v hv => by obtain ⟨n, _, rfl⟩ := List.mem_map.1 hv; simp [AV.ok]) (by simp [AV.scL, AV.sc]) (Nat.le_refl _) (fr := ((Go.Lib.bytesCells w e b).size, (Go.Lib.bytesCells w e b).size + 1)) (.inr (Nat.le_refl _)) (Go.Lib.bytesWorld_at_new w e b) (fun i v hv => ?_) (by rw [hlen, hsz]; exact hge)
 ·refine ⟨_, _, _, ?_, .inl rfl, dnew_nx, p⟩
  simp only [execOp, ho, x1, AV.con, Sem.run_bind, r, Result.andThen_ok, Sem.run_pure]
  simp [Inj.put, hsz]
 ·rw [conL_get] at hv
  obtain ⟨y, hy, rfl⟩ := Option.map_eq_some_iff.1 hv
  rw [List.getElem?_map] at hy
  obtain ⟨n, hn, rfl⟩ := Option.map_eq_some_iff.1 hy
  simp only [sbs, List.getElem?_map] at hn
  obtain ⟨c, hc, rfl⟩ := Option.map_eq_some_iff.1 hn
  have hi : i < b.data.size := by
   have := (List.getElem?_eq_some_iff.1 hc).1
   simpa using this
  simp only [Go.Lib.bytesCells, AV.con]
  rw [Array.getElem?_append_left (by simpa using hi), Array.getElem?_map]
  have : b.data[i]? = some c := by simpa using hc
  rw [this]; rfl
theorem app_make {t u ty e : TypeId} {i : TypeInfo} {z : Value} {kd : IntKind} (ht : P.underlying t = some (.slice e)) (hu : P.underlying u = some (.int kd)) (hi : P.info? e = some i) (hz : i.zero = some z) (hs : 0 < i.size) {k : Int}
  (h0 : 0 < k) (h1 : k ≤ 9223372036854775807) (hfit : k.toNat * i.bytes ≤ 140737488355328) (hby : 0 < i.bytes) :
  (Builtin.append_ #[t, u] ty #[.slice none 0 0, .int .i64 k]).run P w = .ok (.slice (some ⟨w.heap.size, 0, none⟩) k.toNat (grownCap w k.toNat 0 e)) (w.drew.alloc (.cells (Builtin.zeroCells z.cells k.toNat ++ Builtin.zeroCells z.cells (grownCap w k.toNat 0 e - k.toNat)) e)) := by
 obtain ⟨n, rfl⟩ : ∃ n : Nat, k = n := ⟨k.toNat, by omega⟩
 simp only [Int.toNat_natCast] at *
 have hf := growslice_fits (need := n) (old := 0) (bytes := i.bytes) (by omega) hfit
 have w1 : IntKind.i64.wrap (n : Int) = n := by rw [IntKind.wrap_i64]; omega
 have n0 : ¬ ((n : Int) < 0) := by omega
 have n3 : ¬ (281474976710656 < Builtin.nextslicecap n 0 * i.bytes) := by omega
 have n4 : ¬ (281474976710656 < (n : Int) * (i.bytes : Int)) := by
  have h5 : ((n * i.bytes : Nat) : Int) ≤ ((140737488355328 : Nat) : Int) := Int.ofNat_le.2 hfit
  rw [Int.natCast_mul] at h5
  generalize (n : Int) * (i.bytes : Int) = q at *
  omega
 have n5 : ¬ (9223372036854775807 < (n : Int)) := by omega
 have n6 : ¬ (n = 0) := by omega
 have n7 : ¬ (i.size = 0) := by omega
 have hmax : (IntKind.i64.max : Int) = 9223372036854775807 := by decide
 have n8 : max (n : Int) 0 = n := by omega
 have n9 : ¬ ((n : Int) ≤ 0) := by omega
 simp [Builtin.append_, run_underlying ht, run_underlying hu, sizeOf, typeInfo, hi, asInt, asIntOf, n8, n9, w1, n0, n3, n4, n5, n6, n7, hmax, Question.forced, zeroValue, hz, newRow, grownCap, Builtin.firstCells]
 intro h9
 exact absurd (Nat.mul_eq_zero.1 h9) (by omega)
theorem snd_appn (R : Rel nt D j E a.tmps) (S : Sim base D j H w) {s x : Operand} {s' x' : Opd} {t u e : TypeId} {i : TypeInfo} {z : List AV} {kd : IntKind} {c : Call} (ho : o.op = .call c) (hc : c.callee = .builtin .append) (htu : c.argTypes.toList = [t, u]) (hx : c.args.toList = [s, x])
  (ht : P.underlying t = some (.slice e)) (hu : P.underlying u = some (.int kd)) (hi : P.info? e = some i) (hz : zerT P e = some z) (hes : 0 < i.size) (hby : 0 < i.bytes) (hzl : z.length = i.size)
  (hs' : resO nt s = some s') (hx' : resO nt x = some x') (h : vappn i.size i.bytes z H (ev E s') (ev E x') = some (v, H')) : Snd P base D j H w a.eval o v H' := by
 obtain ⟨s1, s2⟩ := R.ev hs'
 obtain ⟨x1, x2⟩ := R.ev hx'
 obtain ⟨i', zv, hi', hzv, hzc, z1, z2⟩ := zerT_built hz j D
 rw [hi] at hi'
 obtain rfl := Option.some.inj hi'
 have htu' : c.argTypes = #[t, u] := by apply Array.ext'; simpa using htu
 have hxx : c.args = #[s, x] := by apply Array.ext'; simpa using hx
 have fin : ∀ (vv : AV) HH w' j', (Builtin.append_ #[t, u] o.type #[a.eval s, a.eval x]).run P w = .ok (vv.con j') w' → vv.ok (Dnew D H HH) → Post base D j H w HH w' j' → Snd P base D j H w a.eval o vv HH := by
  intro vv HH w' j' hr hv hp
  refine ⟨_, w', j', call_run ho hc (r := .ok (.value (vv.con j')) w') ?_, .inl rfl, hv, hp⟩
  simp [builtin, args_two hx, htu', hr]
 generalize ev E s' = p at *
 generalize ev E x' = q at *
 unfold vappn at h
 split at h
 ·rename_i k
  split at h
  ·rename_i hb
   split at h
   ·rename_i hk
    simp only [Option.some.injEq, Prod.mk.injEq] at h
    obtain ⟨rfl, rfl⟩ := h
    subst hk
    refine fin .sn H w j ?_ (by simp [AV.ok]) (Post.refl S)
    rw [s1, x1]
    simp [AV.con, Builtin.append_, run_underlying ht, run_underlying hu, sizeOf, typeInfo, hi, asInt, asIntOf, show IntKind.i64.wrap 0 = 0 by decide, Builtin.zeroCells, storeCells, Result.andThen]
    trace_state
   ·rename_i hk
    simp only [Option.some.injEq, Prod.mk.injEq] at h
    obtain ⟨rfl, rfl⟩ := h
    have r := app_make (P := P) (w := w) (ty := o.type) ht hu hi hzv hes (k := k) (by omega) hb.2.1 hb.2.2 hby
    have hmade := flat_made j z k.toNat
    rw [hzl] at hmade
    have hcells : Builtin.zeroCells zv.cells k.toNat = (AV.conL j (List.replicate k.toNat z).flatten).toArray := by
     rw [← hmade, ← hzl, hzc]
     simp [Builtin.zeroCells, madeCells, conL_length]
    rw [hcells] at r
    have hp := grown_post S (okL_flat (n := k.toNat) z1) (scL_flat (n := k.toNat) z2) e (Builtin.zeroCells zv.cells (grownCap w k.toNat 0 e - k.toNat))
    refine fin _ _ _ _ ?_ dnew_nx hp
    rw [s1, x1]
    have hge := grownCap_ge w k.toNat 0 e
    have hcon := sg_con (j := j) (H := H) (n := k.toNat) (es := i.size) (cap := grownCap w k.toNat 0 e) (len := 0) (c := .new w.heap.size ((List.replicate k.toNat z).flatten.length + (Builtin.zeroCells zv.cells (grownCap w k.toNat 0 e - k.toNat)).size)) (by
     rw [zc_size, hzc]
     have : (List.replicate k.toNat z).flatten.length = k.toNat * z.length := by simp
     rw [this, hzl]
     simp only [List.size_toArray, conL_length, hzl]
     rw [← Nat.add_mul]
     congr 1
     omega) hes
    rw [hcon]
    exact r
  ·cases h
 ·cases h
end
end Go.AX
end
section
namespace Go.AX
open Go
section
variable {P : Program} {base nt : Nat} {D : Nat → Prop} {j : Inj} {H H' : AH} {w : World} {a : Act} {o : Oper} {v : AV} {E : Env}
theorem Evo.mpb (H : AH) (es : List (AV × AV)) : Evo H (H.mpb es) := by
 refine ⟨Nat.le_succ _, ?_, ?_, ?_⟩
 ·intro b hb h
  simp only [AH.mpb]; rw [if_neg (by omega)]; exact h
 ·intro b l hb h
  simp only [AH.mpb]; rw [if_neg (by omega)]; exact h
 ·intro b hb h
  simp only [AH.mpb]; rw [if_neg (by omega)]; exact .inr h
theorem Sim.mpb (S : Sim base D j H w) {es : List (AV × AV)} (hes : okM D es) {en : Array MapEntry} {c : Nat} (he : mapL en c = conM j es) {w' : World} (hw : w' = { w with heap := w.heap.push (.map en c) }) :
  Post base D j H w (H.mpb es) w' (j.put H.nx (.new w.heap.size 0)) := by
 subst hw
 have hold : ∀ k, k < w.heap.size → (w.heap.push (Obj.map en c))[k]? = w.heap[k]? := fun k hk => by
  rw [Array.getElem?_push, if_neg (by omega)]
 have hD : ∀ b, Dnew D H (H.mpb es) b → b = H.nx ∨ (D b ∧ b < H.nx) := by
  rintro b (hb | ⟨h1, h2⟩)
  ·exact .inr ⟨hb, S.lt b hb⟩
  ·simp only [AH.mpb] at h2; exact .inl (by omega)
 have hjo : ∀ b, b < H.nx → (j.put H.nx (.new w.heap.size 0)) b = j b := fun b hb => by simp only [Inj.put]; rw [if_neg (by omega)]
 refine ⟨Evo.mpb H es, fun b hb => hjo b (S.lt b hb), ⟨?_, ?_, ?_, ?_, ?_, ?_, ?_⟩, ⟨rfl, rfl, rfl, by simp, fun k hk _ => hold k hk⟩, ?_⟩
 ·intro b hb
  rcases hD b hb with rfl | ⟨_, h⟩ <;> simp only [AH.mpb] <;> omega
 ·intro b hb
  simp only [AH.mpb] at hb ⊢
  rw [if_neg (by omega)]
  exact S.wf b (by omega)
 ·have := S.size; simp; omega
 ·intro b l' hb hg
  rcases hD b hb with rfl | ⟨hb', h⟩
  ·simp [AH.mpb] at hg
  ·simp only [AH.mpb] at hg
   rw [if_neg (by omega)] at hg
   obtain ⟨⟨cs', t', fr', h1, h2⟩, h3, h4⟩ := S.ro b l' hb' hg
   rw [conL_put S.lt _ h3, hjo b h]
   refine ⟨⟨cs', t', fr', ?_, h2⟩, okL_Dnew h3, h4⟩
   rw [hold _ (Array.getElem?_eq_some_iff.1 h1).1]; exact h1
 ·intro b l' hb hg
  rcases hD b hb with rfl | ⟨hb', h⟩
  ·simp [AH.mpb] at hg
  ·simp only [AH.mpb] at hg
   rw [if_neg (by omega)] at hg
   obtain ⟨⟨cs', t', fr', h1, h2, h5, h6, h7⟩, h3, h4, h8⟩ := S.rw b l' hb' hg
   rw [conL_put S.lt _ h3, hjo b h]
   refine ⟨⟨cs', t', fr', ?_, h2, h5, h6, h7⟩, okL_Dnew h3, h4, h8⟩
   rw [hold _ (Array.getElem?_eq_some_iff.1 h1).1]; exact h1
 ·intro b l' hb hg
  rcases hD b hb with rfl | ⟨hb', h⟩
  ·simp only [AH.mpb, if_true, Blk.mp.injEq] at hg
   subst hg
   rw [conM_congr (j := j) (fun x hx => hjo x (S.lt x hx)) hes]
   refine ⟨⟨en, c, ?_, he⟩, okM_mono (fun _ => .inl) hes, ?_⟩
   ·simp [Inj.put, CB.new]
   ·simp [Inj.put, CB.new]; exact S.size
  ·simp only [AH.mpb] at hg
   rw [if_neg (by omega)] at hg
   obtain ⟨⟨en', c', h1, h2⟩, h3, h4⟩ := S.mp b l' hb' hg
   rw [hjo b h, conM_congr (j := j) (fun x hx => hjo x (S.lt x hx)) h3]
   exact ⟨⟨en', c', by rw [hold _ (Array.getElem?_eq_some_iff.1 h1).1]; exact h1, h2⟩, okM_mono (fun _ => .inl) h3, h4⟩
 ·intro b b' hb hb' hg hg' hk
  rcases hD b hb with rfl | ⟨hb1, h⟩
  ·rcases hD b' hb' with rfl | ⟨hb2, h'⟩
   ·rfl
   ·exfalso
    simp only [AH.mpb] at hg'
    rw [if_neg (by omega)] at hg'
    have h3 := S.row_lt hb2 hg'
    simp only [Inj.put, if_true] at hk
    rw [if_neg (by omega)] at hk
    try simp only [CB.new] at hk
    omega
  ·simp only [AH.mpb] at hg
   rw [if_neg (by omega)] at hg
   rcases hD b' hb' with rfl | ⟨hb2, h'⟩
   ·exfalso
    have h3 := S.row_lt hb1 (fun e => by rw [e] at hg; simp [Blk.own] at hg)
    simp only [Inj.put, if_true] at hk
    rw [if_neg (by omega)] at hk
    try simp only [CB.new] at hk
    omega
   ·simp only [AH.mpb] at hg'
    rw [if_neg (by omega)] at hg'
    simp only [Inj.put] at hk
    rw [if_neg (by omega), if_neg (by omega)] at hk
    exact S.inj b b' hb1 hb2 hg hg' hk
 ·intro b h1 h2 _
  simp only [AH.mpb] at h2
  obtain rfl : b = H.nx := by omega
  exact .inl (by simp [Inj.put, CB.new])
theorem Sim.mup (S : Sim base D j H w) {b : Nat} (hb : D b) {es es' : List (AV × AV)} (hg : H.g b = .mp es) (hes : okM D es') {en en' : Array MapEntry} {c c' : Nat} (h0 : w.heap[(j b).k]? = some (.map en c)) (he : mapL en' c' = conM j es') :
  Post base D j H w (H.mup b es') { w with heap := w.heap.setIfInBounds (j b).k (.map en' c') } j := by
 have hold : ∀ x, D x → x ≠ b → H.g x ≠ .no → (j x).k ≠ (j b).k := fun x hx hne hn e => hne (S.inj b x hb hx (by rw [hg]; rfl) hn e)
 obtain ⟨hself, hother⟩ := Go.MapKept.heap_set (o' := .map en' c') h0
 obtain ⟨g1, g2, g3⟩ := S.mp b es hb hg
 have evo : Evo H (H.mup b es') := by
  refine ⟨Nat.le_refl _, ?_, ?_, ?_⟩
  ·intro x hx hno
   simp only [AH.mup]; rw [if_neg (fun e => by subst e; rw [hg] at hno; cases hno)]; exact hno
  ·intro x lx hx hro
   simp only [AH.mup]; rw [if_neg (fun e => by subst e; rw [hg] at hro; cases hro)]; exact hro
  ·intro x hx hrw
   simp only [AH.mup]
   split
   ·exact .inr rfl
   ·exact .inr hrw
 refine ⟨evo, fun _ _ => rfl, Sim.iffD (D := D) ⟨S.lt, fun x hx => by simp only [AH.mup] at hx ⊢; rw [if_neg (fun e => by have := S.lt b hb; omega)]; exact S.wf x hx, by simp; exact S.size, ?_, ?_, ?_, ?_⟩ (fun x => Dnew.self), ⟨rfl, rfl, rfl, by simp, ?_⟩, fun x h1 h2 _ => by simp only [AH.mup] at h2; omega⟩
 ·intro x lx hx hro
  simp only [AH.mup] at hro
  split at hro
  ·cases hro
  ·rename_i hne
   obtain ⟨⟨cs1, t1, fr1, h1, h2⟩, h3, h4⟩ := S.ro x lx hx hro
   exact ⟨⟨cs1, t1, fr1, by rw [hother _ (hold x hx hne (by rw [hro]; simp))]; exact h1, h2⟩, h3, h4⟩
 ·intro x lx hx hrw
  simp only [AH.mup] at hrw
  split at hrw
  ·cases hrw
  ·rename_i hne
   obtain ⟨⟨cs1, t1, fr1, h1, h2, h5, h6, h7⟩, h3, h4, h8⟩ := S.rw x lx hx hrw
   exact ⟨⟨cs1, t1, fr1, by rw [hother _ (hold x hx hne (by rw [hrw]; simp))]; exact h1, h2, h5, h6, h7⟩, h3, h4, h8⟩
 ·intro x ex hx hmp
  simp only [AH.mup] at hmp
  split at hmp
  ·rename_i he2
   subst he2
   simp only [Blk.mp.injEq] at hmp
   subst hmp
   exact ⟨⟨en', c', hself, he⟩, hes, g3⟩
  ·rename_i hne
   obtain ⟨⟨en1, c1, h1, h2⟩, h3, h4⟩ := S.mp x ex hx hmp
   exact ⟨⟨en1, c1, by rw [hother _ (hold x hx hne (by rw [hmp]; simp))]; exact h1, h2⟩, h3, h4⟩
 ·intro x x' hx hx' hrw hno hk
  have hx1 : (H.g x).own = true := by
   simp only [AH.mup] at hrw
   split at hrw
   ·rename_i he2; rw [he2, hg]; rfl
   ·exact hrw
  have hx2 : H.g x' ≠ .no := by
   simp only [AH.mup] at hno
   split at hno
   ·rename_i he2; rw [he2, hg]; simp
   ·exact hno
  exact S.inj x x' hx hx' hx1 hx2 hk
 ·intro k hk hn
  exact hother k (fun e => hn b hb (by rw [hg]; rfl) e.symm)
theorem snd_mkm (S : Sim base D j H w) {t k e : TypeId} {r : Option Operand} (ho : o.op = .makeMap t r) (hr : r.isNone = true) (hu : P.underlying t = some (.map k e)) : Snd P base D j H w a.eval o (.mp H.nx) (H.mpb map0) := by
 have hr : r = none := by cases r <;> simp_all
 subst hr
 refine ⟨_, _, _, ?_, .inl rfl, .inr ⟨Nat.le_refl _, by simp [AH.mpb]⟩, Sim.mpb S (es := map0) (en := #[]) (c := 0) (fun e he => by
  simp only [map0, List.mem_singleton] at he
  subst he
  exact ⟨trivial, trivial⟩) (by simp [mapL, map0, conM, AV.con]) rfl⟩
 simp [execOp, ho, Instr.makeMap, newObj, AV.con, Inj.put, CB.new]
 rfl
theorem run_checkInt {kt : TypeId} {q k : IntKind} {n : Int} (hd : P.underlying kt = some (.int q)) (e : Bool) (m : Nat) : (Instr.checkKey e (m + 1) kt (.int k n)).run P w = .ok () w := by
 unfold Instr.checkKey
 simp only [Sem.run_bind, run_underlying hd, Result.andThen]
 simp
theorem mapT_ok {t : TypeId} {z : AV} (h : mapT P t = some z) (j : Inj) (D : Nat → Prop) : ∃ k e q zv, P.underlying t = some (.map k e) ∧ P.underlying k = some (.int q) ∧ (∀ w, (zeroValue e).run P w = .ok zv w) ∧ z.con j = zv ∧ z.ok D := by
 unfold mapT at h
 split at h
 ·rename_i k e hu
  split at h
  ·rename_i q hk
   simp only [Option.bind_eq_some_iff] at h
   obtain ⟨i, hi, zv, hzv, hz⟩ := h
   obtain ⟨z1, z2⟩ := absV_con (j := j) (D := D) hz
   exact ⟨k, e, q, zv, hu, hk, fun w => by simp [zeroValue, typeInfo, hi, hzv], z1, z2⟩
  ·cases h
 ·cases h
theorem find_ok {q k : IntKind} {n : Int} : ∀ {en : List MapEntry} {es : List (AV × AV)} {r : Option (AV × AV)} (i : Nat), en.map (fun e => (e.key, Value.tuple #[e.val, .int .i64 e.born])) = conM j es → mfindI k n es = some r →
  match r with
  | none => Instr.findNow (.int q) (.int k n) en i = some none
  | some (v, s) => ∃ m e, Instr.findNow (.int q) (.int k n) en i = some (some (i + m, v.con j)) ∧ en[m]? = some e ∧ e.key = .int k n ∧ s.con j = .int .i64 e.born ∧ ∃ key, (key, .tu [v, s]) ∈ es
 | [], [], r, i, _, h => by
  cases h
  rfl
 | [], _ :: _, _, _, h, _ => by simp [conM] at h
 | _ :: _, [], _, _, h, _ => by simp [conM] at h
 | e :: en, (ka, va) :: es, r, i, he, h => by
  simp only [List.map_cons, conM, List.cons.injEq, Prod.mk.injEq] at he
  obtain ⟨⟨h1, h2⟩, h3⟩ := he
  unfold mfindI at h
  split at h
  ·rename_i he2; cases he2
  ·rename_i k' n' v s r' he2
   simp only [List.cons.injEq, Prod.mk.injEq] at he2
   obtain ⟨⟨rfl, rfl⟩, rfl⟩ := he2
   simp only [AV.con, AV.conL, Value.tuple.injEq] at h1 h2
   have h2' : e.val = v.con j ∧ Value.int .i64 e.born = s.con j := by simpa using h2
   split at h
   ·rename_i hk
    subst hk
    split at h
    ·rename_i hn
     subst hn
     cases h
     refine ⟨0, e, ?_, rfl, h1, h2'.2.symm, .it k' n, by simp⟩
     simp [Instr.findNow, Instr.sameNow, h1, h2'.1]
    ·rename_i hn
     have ih := find_ok (q := q) (i + 1) h3 h
     have hne : Instr.findNow (.int q) (.int k' n) (e :: en) i = Instr.findNow (.int q) (.int k' n) en (i + 1) := by
      have hb : (n == n') = false := by simp [hn]
      simp [Instr.findNow, Instr.sameNow, h1, hb]
     cases r with
     | none => rw [hne]; exact ih
     | some vs =>
      obtain ⟨v1, s1⟩ := vs
      obtain ⟨m, e', i1, i2, i3, i4, key, i5⟩ := ih
      refine ⟨m + 1, e', ?_, by simpa using i2, i3, i4, key, List.mem_cons_of_mem _ i5⟩
      rw [hne, i1]
      congr 3; omega
   ·cases h
  ·cases h
theorem getObj_map {r : Nat} {en : Array MapEntry} {c : Nat} (h : w.heap[r]? = some (.map en c)) : (getObj r).run P w = .ok (.map en c) w := Go.MapKept.run_getObj_map h
theorem snd_lkp (R : Rel nt D j E a.tmps) (S : Sim base D j H w) {t : TypeId} {x i : Operand} {x' i' : Opd} {ok : Bool} {z : AV} (ho : o.op = .lookup t x i ok) (hz : mapT P t = some z) (hx : resO nt x = some x') (hi : resO nt i = some i')
  (h : vlkp z ok H (ev E x') (ev E i') = some v) : Snd P base D j H w a.eval o v H := by
 obtain ⟨x1, x2⟩ := R.ev hx
 obtain ⟨i1, i2⟩ := R.ev hi
 obtain ⟨kt, et, q, zv, hu, hk, hzr, z1, z2⟩ := mapT_ok hz j D
 generalize ev E x' = u at *
 generalize ev E i' = y at *
 unfold vlkp at h
 split at h
 ·rename_i b k n
  split at h
  ·rename_i hd es hg
   obtain ⟨r, hr, h⟩ := Option.map_eq_some_iff.1 h
   obtain ⟨⟨en, c, g1, g2⟩, g3, g4⟩ := S.mp b _ x2 hg
   simp only [mapL, conM, List.map_cons, List.cons.injEq] at g2
   have hf := find_ok (q := q) 0 g2.2 hr
   have hrun : ∀ (res : Option (Nat × Value)), Instr.findNow (.int q) (.int k n) en.toList 0 = some res → (Instr.findKey kt (.int k n) en.toList).run P w = .ok res w := fun res hres => Go.MapKept.run_findKey hk hres
   have hgo := getObj_map (P := P) g1
   cases r with
   | none =>
    have hrun := hrun none hf
    refine Snd.same S (v := v) ?_ ?_
    ·simp [execOp, ho, Instr.lookup, run_underlying hu, x1, i1, AV.con, hgo, run_checkInt hk, hrun, hzr]
     cases ok <;> (simp at h; subst h; simp [AV.con, AV.conL, z1])
    ·cases ok <;> (simp at h; subst h)
     ·exact z2
     ·exact ⟨z2, trivial, trivial⟩
   | some vs =>
    obtain ⟨v1, s1⟩ := vs
    obtain ⟨m, e, f1, f2, f3, f4, key, f5⟩ := hf
    have hrun := hrun _ f1
    have hok := (g3 (key, .tu [v1, s1]) (List.mem_cons_of_mem _ f5)).2
    have hok1 : v1.ok D := hok.1
    refine Snd.same S (v := v) ?_ ?_
    ·simp [execOp, ho, Instr.lookup, run_underlying hu, x1, i1, AV.con, hgo, run_checkInt hk, hrun, hzr]
     cases ok <;> (simp at h; subst h; simp [AV.con, AV.conL])
    ·cases ok <;> (simp at h; subst h)
     ·exact hok1
     ·exact ⟨hok1, trivial, trivial⟩
  ·cases h
 ·cases h
theorem modify_id {en : Array MapEntry} {m : Nat} {e : MapEntry} {f : MapEntry → MapEntry} (h : en.toList[m]? = some e) (hf : f e = e) : en.modify m f = en := by
 have hm : en[m]? = some e := by simpa using h
 apply Array.ext
 ·simp
 ·intro i h1 h2
  rw [Array.getElem_modify]
  split
  ·rename_i he
   subst he
   have := (Array.getElem?_eq_some_iff.1 hm).2
   rw [this, hf]
  ·rfl
theorem mfindI_ok {k : IntKind} {n : Int} : ∀ {es : List (AV × AV)} {v s : AV}, mfindI k n es = some (some (v, s)) → okM D es → v.ok D ∧ s.ok D
 | [], _, _, h, _ => by cases h
 | e :: es, v, s, h, ho => by
  unfold mfindI at h
  split at h
  ·rename_i he; cases he
  ·rename_i k' n' v' b r he
   cases he
   split at h
   ·split at h
    ·cases h
     have := (ho _ List.mem_cons_self).2
     exact ⟨this.1, this.2.1⟩
    ·exact mfindI_ok h fun e he => ho e (List.mem_cons_of_mem _ he)
   ·cases h
  ·cases h
theorem snd_ment (R : Rel nt D j E a.tmps) (S : Sim base D j H w) {t : TypeId} {x i : Operand} {x' i' : Opd} {z : AV} (ho : o.op = .mapEntry t x i) (hz : mapT P t = some z) (hx : resO nt x = some x') (hi : resO nt i = some i')
  (h : vment z H (ev E x') (ev E i') = some (v, H')) : Snd P base D j H w a.eval o v H' := by
 obtain ⟨x1, x2⟩ := R.ev hx
 obtain ⟨i1, i2⟩ := R.ev hi
 obtain ⟨kt, et, q, zv, hu, hk, hzr, z1, z2⟩ := mapT_ok hz j D
 generalize ev E x' = u at *
 generalize ev E i' = y at *
 unfold vment at h
 split at h
 ·rename_i b k n
  split at h
  ·rename_i c uu es hg
   obtain ⟨r, hr, h⟩ := Option.map_eq_some_iff.1 h
   obtain ⟨⟨en, cc, g1, g2⟩, g3, g4⟩ := S.mp b _ x2 hg
   have g2' := g2
   simp only [mapL, conM, List.map_cons, List.cons.injEq, Prod.mk.injEq, AV.con, Value.int.injEq, true_and] at g2'
   obtain ⟨⟨hc, hub⟩, g5⟩ := g2'
   have hf := find_ok (q := q) 0 g5 hr
   have hgo := getObj_map (P := P) g1
   have hst := fun oo => Go.MapKept.run_setObj_map (P := P) oo g1
   have hrun : ∀ (res : Option (Nat × Value)), Instr.findNow (.int q) (.int k n) en.toList 0 = some res → (Instr.findKey kt (.int k n) en.toList).run P w = .ok res w := fun res hres => Go.MapKept.run_findKey hk hres
   have gok := g3
   cases r with
   | none =>
    have hrun := hrun none hf
    simp only [Prod.mk.injEq] at h
    obtain ⟨rfl, rfl⟩ := h
    refine ⟨_, _, j, ?_, .inl rfl, ok_Dnew (D := D) ⟨z2, trivial, trivial⟩, Sim.mup S x2 hg ?_ g1 (en' := en.push { key := .int k n, val := zv, born := cc }) (c' := cc + 1) ?_⟩
    ·simp [execOp, ho, Instr.mapEntry, run_underlying hu, x1, i1, AV.con, AV.conL, hgo, run_checkInt hk, hrun, hzr, hst, goInt, z1, hc]
    ·intro e he
     rcases List.mem_cons.1 he with e1 | he
     ·subst e1
      exact ⟨trivial, (gok _ List.mem_cons_self).2⟩
     ·rcases List.mem_append.1 he with he | he
      ·exact gok e (List.mem_cons_of_mem _ he)
      ·rw [List.mem_singleton] at he
       subst he
       exact ⟨trivial, z2, trivial, trivial⟩
    ·simp only [mapL, conM, List.map_cons, AV.con, hub, Array.toList_push, List.map_append, List.map_nil]
     rw [← hc, g5]
     simp [conM, AV.con, AV.conL, z1]
   | some vs =>
    obtain ⟨v1, s1⟩ := vs
    obtain ⟨m, e, f1, f2, f3, f4, key, f5⟩ := hf
    have hrun := hrun _ f1
    simp only [Prod.mk.injEq] at h
    obtain ⟨rfl, rfl⟩ := h
    have hok := mfindI_ok hr fun e he => gok e (List.mem_cons_of_mem _ he)
    have hm : en[m]? = some e := by simpa using f2
    have hkeep : (Instr.keyThatStays (.int k n) (.int k n)).run P w = .ok (.int k n) w := by simp [Instr.keyThatStays, Instr.sameBits]
    have hmod : en.modify m (fun e => { e with key := .int k n }) = en := modify_id f2 (by cases e; simp only at f3; rw [f3])
    refine ⟨_, _, j, ?_, .inl rfl, ok_Dnew (D := D) ⟨hok.1, hok.2, trivial⟩, Sim.mup S x2 hg gok g1 (en' := en) (c' := cc) g2⟩
    simp [execOp, ho, Instr.mapEntry, run_underlying hu, x1, i1, AV.con, AV.conL, hgo, run_checkInt hk, hrun, hzr, hst, goInt, hm, f3, hkeep, hmod, f4]
  ·cases h
 ·cases h
theorem stoI_ok {n : Int} {x : AV} : ∀ {en : List MapEntry} {es es' : List (AV × AV)}, en.map (fun e => (e.key, Value.tuple #[e.val, .int .i64 e.born])) = conM j es → mstoI n x es = some es' →
  ∃ i, en.findIdx? (fun e => (e.born : Int) == n) = some i ∧ (en.modify i fun e => { e with val := x.con j }).map (fun e => (e.key, Value.tuple #[e.val, .int .i64 e.born])) = conM j es'
 | [], [], _, _, h => by cases h
 | [], _ :: _, _, h, _ => by simp [conM] at h
 | _ :: _, [], _, h, _ => by simp [conM] at h
 | e :: en, (ka, va) :: es, es', he, h => by
  simp only [List.map_cons, conM, List.cons.injEq, Prod.mk.injEq] at he
  obtain ⟨⟨h1, h2⟩, h3⟩ := he
  unfold mstoI at h
  split at h
  ·rename_i he2; cases he2
  ·rename_i k' v b r he2
   cases he2
   have h2' : e.val = v.con j ∧ (e.born : Int) = b := by simpa [AV.con, AV.conL] using h2
   split at h
   ·rename_i hb
    subst hb
    cases h
    refine ⟨0, by simp [List.findIdx?_cons, h2'.2], ?_⟩
    simp only [List.modify_zero_cons, List.map_cons, conM, List.cons.injEq, Prod.mk.injEq]
    exact ⟨⟨h1, by simp [AV.con, AV.conL, h2'.2]⟩, h3⟩
   ·rename_i hb
    obtain ⟨es1, h4, rfl⟩ := Option.map_eq_some_iff.1 h
    obtain ⟨i, i1, i2⟩ := stoI_ok h3 h4
    refine ⟨i + 1, ?_, ?_⟩
    ·have : ((e.born : Int) == n) = false := by rw [h2'.2]; simp [hb]
     simp [List.findIdx?_cons, this, i1]
    ·simp only [List.modify_succ_cons, List.map_cons, i2, conM, List.cons.injEq, Prod.mk.injEq]
     exact ⟨⟨h1, h2⟩, trivial⟩
  ·cases h
theorem mstoI_mem {n : Int} {x : AV} (hx : x.ok D) : ∀ {es es' : List (AV × AV)}, mstoI n x es = some es' → okM D es → okM D es'
 | [], _, h, _ => by cases h
 | e :: es, es', h, ho => by
  unfold mstoI at h
  split at h
  ·rename_i he; cases he
  ·rename_i k v b r he
   cases he
   split at h
   ·cases h
    intro e he
    rcases List.mem_cons.1 he with e1 | he
    ·subst e1
     exact ⟨(ho _ List.mem_cons_self).1, hx, trivial, trivial⟩
    ·exact ho e (List.mem_cons_of_mem _ he)
   ·obtain ⟨es1, h4, rfl⟩ := Option.map_eq_some_iff.1 h
    have := mstoI_mem hx h4 fun e he => ho e (List.mem_cons_of_mem _ he)
    intro e he
    rcases List.mem_cons.1 he with e1 | he
    ·subst e1; exact ho _ List.mem_cons_self
    ·exact this e he
  ·cases h
theorem snd_mest (R : Rel nt D j E a.tmps) (S : Sim base D j H w) {t : TypeId} {m s x : Operand} {m' s' x' : Opd} (ho : o.op = .entryStore t m s x) (hm : resO nt m = some m') (hs : resO nt s = some s') (hx : resO nt x = some x')
  (h : vmsto false H (ev E m') (ev E s') (ev E x') = some (v, H')) : Snd P base D j H w a.eval o v H' := by
 obtain ⟨m1, m2⟩ := R.ev hm
 obtain ⟨s1, s2⟩ := R.ev hs
 obtain ⟨x1, x2⟩ := R.ev hx
 generalize ev E m' = u at *
 generalize ev E s' = y at *
 generalize ev E x' = z at *
 unfold vmsto at h
 split at h
 ·rename_i b k n
  split at h
  ·rename_i es0 hg
   obtain ⟨es1, hes, h⟩ := Option.map_eq_some_iff.1 h
   simp only [Prod.mk.injEq] at h
   obtain ⟨rfl, rfl⟩ := h
   unfold mstoQ at hes
   split at hes
   case h_2 => cases hes
   rename_i c0 u0 es
   simp only [cond_false] at hes
   obtain ⟨es', hes2, rfl⟩ := Option.map_eq_some_iff.1 hes
   clear hes
   obtain ⟨⟨en, cc, g1, g2⟩, g3, g4⟩ := S.mp b _ m2 hg
   simp only [mapL, conM, List.map_cons, List.cons.injEq] at g2
   obtain ⟨i, i1, i2⟩ := stoI_ok g2.2 hes2
   have hgo := getObj_map (P := P) g1
   have hst := fun oo => Go.MapKept.run_setObj_map (P := P) oo g1
   have hfi : en.findIdx? (fun e => (e.born : Int) == n) = some i := by rw [← i1]; cases en; exact List.findIdx?_toArray _ _
   refine ⟨.skip, _, j, ?_, .inr ⟨rfl, rfl⟩, trivial, Sim.mup S m2 hg ?_ g1 (en' := en.modify i fun e => { e with val := z.con j }) (c' := cc) ?_⟩
   ·simp [execOp, ho, Instr.entryStore, m1, s1, x1, AV.con, hgo, asInt, asIntOf, hfi, hst]
   ·have := mstoI_mem x2 hes2 fun e he => g3 e (List.mem_cons_of_mem _ he)
    intro e he
    rcases List.mem_cons.1 he with e1 | he
    ·subst e1; exact g3 _ List.mem_cons_self
    ·exact this e he
   ·simp only [mapL, conM, List.map_cons, Array.toList_modify]
    rw [i2, g2.1]
    rfl
  ·cases h
 ·cases h
theorem key_ok {q k : IntKind} {n : Int} {x : AV} : ∀ {en : List MapEntry} {es es' : List (AV × AV)} (i : Nat), en.map (fun e => (e.key, Value.tuple #[e.val, .int .i64 e.born])) = conM j es → mkeyI k n x es = some es' →
  ∃ m e v, Instr.findNow (.int q) (.int k n) en i = some (some (i + m, v)) ∧ en[m]? = some e ∧ e.key = .int k n ∧ (en.modify m fun e => { e with key := .int k n, val := x.con j }).map (fun e => (e.key, Value.tuple #[e.val, .int .i64 e.born])) = conM j es'
 | [], [], _, i, _, h => by cases h
 | [], _ :: _, _, _, h, _ => by simp [conM] at h
 | _ :: _, [], _, _, h, _ => by simp [conM] at h
 | e :: en, (ka, va) :: es, es', i, he, h => by
  simp only [List.map_cons, conM, List.cons.injEq, Prod.mk.injEq] at he
  obtain ⟨⟨h1, h2⟩, h3⟩ := he
  unfold mkeyI at h
  split at h
  ·rename_i he2; cases he2
  ·rename_i k' n' v s r' he2
   simp only [List.cons.injEq, Prod.mk.injEq] at he2
   obtain ⟨⟨rfl, rfl⟩, rfl⟩ := he2
   simp only [AV.con, AV.conL, Value.tuple.injEq] at h1 h2
   have h2' : e.val = v.con j ∧ Value.int .i64 e.born = s.con j := by simpa using h2
   split at h
   ·rename_i hk
    subst hk
    split at h
    ·rename_i hn
     subst hn
     cases h
     refine ⟨0, e, v.con j, ?_, rfl, h1, ?_⟩
     ·simp [Instr.findNow, Instr.sameNow, h1, h2'.1]
     ·simp only [List.modify_zero_cons, List.map_cons, conM, List.cons.injEq, Prod.mk.injEq]
      exact ⟨⟨rfl, by simp [AV.con, AV.conL, h2'.2]⟩, h3⟩
    ·rename_i hn
     obtain ⟨es1, h4, rfl⟩ := Option.map_eq_some_iff.1 h
     obtain ⟨m, e', v', i1, i2, i3, i4⟩ := key_ok (q := q) (i + 1) h3 h4
     have hne : Instr.findNow (.int q) (.int k' n) (e :: en) i = Instr.findNow (.int q) (.int k' n) en (i + 1) := by
      have hb : (n == n') = false := by simp [hn]
      simp [Instr.findNow, Instr.sameNow, h1, hb]
     refine ⟨m + 1, e', v', ?_, by simpa using i2, i3, ?_⟩
     ·rw [hne, i1]
      congr 3; omega
     ·simp only [List.modify_succ_cons, List.map_cons, i4, conM, List.cons.injEq, Prod.mk.injEq]
      exact ⟨⟨by rw [h1]; rfl, by simpa [AV.con, AV.conL] using h2⟩, trivial⟩
   ·cases h
  ·cases h
theorem mkeyI_mem {k : IntKind} {n : Int} {x : AV} (hx : x.ok D) : ∀ {es es' : List (AV × AV)}, mkeyI k n x es = some es' → okM D es → okM D es'
 | [], _, h, _ => by cases h
 | e :: es, es', h, ho => by
  unfold mkeyI at h
  split at h
  ·rename_i he; cases he
  ·rename_i k v b r he
   cases he
   split at h
   ·split at h
    ·cases h
     intro e he
     rcases List.mem_cons.1 he with e1 | he
     ·subst e1
      have := ho _ List.mem_cons_self
      exact ⟨this.1, hx, this.2.2⟩
     ·exact ho e (List.mem_cons_of_mem _ he)
    ·obtain ⟨es1, h4, rfl⟩ := Option.map_eq_some_iff.1 h
     have := mkeyI_mem hx h4 fun e he => ho e (List.mem_cons_of_mem _ he)
     intro e he
     rcases List.mem_cons.1 he with e1 | he
     ·subst e1; exact ho _ List.mem_cons_self
     ·exact this e he
   ·cases h
  ·cases h
theorem snd_mset (R : Rel nt D j E a.tmps) (S : Sim base D j H w) {t : TypeId} {m s x : Operand} {m' s' x' : Opd} {z0 : AV} (ho : o.op = .mapUpdate t m s x) (hz : mapT P t = some z0) (hm : resO nt m = some m') (hs : resO nt s = some s') (hx : resO nt x = some x')
  (h : vmsto true H (ev E m') (ev E s') (ev E x') = some (v, H')) : Snd P base D j H w a.eval o v H' := by
 obtain ⟨m1, m2⟩ := R.ev hm
 obtain ⟨s1, s2⟩ := R.ev hs
 obtain ⟨x1, x2⟩ := R.ev hx
 obtain ⟨kt, et, q, zv, hu, hk, hzr, z1, z2⟩ := mapT_ok hz j D
 generalize ev E m' = u at *
 generalize ev E s' = y at *
 generalize ev E x' = z at *
 unfold vmsto at h
 split at h
 ·rename_i b k n
  split at h
  ·rename_i es0 hg
   obtain ⟨es1, hes, h⟩ := Option.map_eq_some_iff.1 h
   simp only [Prod.mk.injEq] at h
   obtain ⟨rfl, rfl⟩ := h
   unfold mstoQ at hes
   split at hes
   case h_2 => cases hes
   rename_i c uu es
   simp only [cond_true] at hes
   obtain ⟨r, hr, hes⟩ := Option.bind_eq_some_iff.1 hes
   obtain ⟨⟨en, cc, g1, g2⟩, g3, g4⟩ := S.mp b _ m2 hg
   have g2' := g2
   simp only [mapL, conM, List.map_cons, List.cons.injEq, Prod.mk.injEq, AV.con, Value.int.injEq, true_and] at g2'
   obtain ⟨⟨hc, hub⟩, g5⟩ := g2'
   have hgo := getObj_map (P := P) g1
   have hst := fun oo => Go.MapKept.run_setObj_map (P := P) oo g1
   have hrun : ∀ (res : Option (Nat × Value)), Instr.findNow (.int q) (.int k n) en.toList 0 = some res → (Instr.findKey kt (.int k n) en.toList).run P w = .ok res w := fun res hres => Go.MapKept.run_findKey hk hres
   have gok := g3
   cases r with
   | none =>
    have hrun := hrun none (find_ok (q := q) 0 g5 hr)
    simp only [Option.some.injEq] at hes
    subst hes
    refine ⟨.skip, _, j, ?_, .inr ⟨rfl, rfl⟩, trivial, Sim.mup S m2 hg ?_ g1 (en' := en.push { key := .int k n, val := z.con j, born := cc }) (c' := cc + 1) ?_⟩
    ·simp [execOp, ho, Instr.mapUpdate, run_underlying hu, m1, s1, x1, AV.con, hgo, run_checkInt hk, hrun, hst]
    ·intro e he
     rcases List.mem_cons.1 he with e1 | he
     ·subst e1
      exact ⟨trivial, (gok _ List.mem_cons_self).2⟩
     ·rcases List.mem_append.1 he with he | he
      ·exact gok e (List.mem_cons_of_mem _ he)
      ·rw [List.mem_singleton] at he
       subst he
       exact ⟨trivial, x2, trivial, trivial⟩
    ·simp only [mapL, conM, List.map_cons, AV.con, hub, Array.toList_push, List.map_append, List.map_nil]
     rw [← hc, g5]
     simp [conM, AV.con, AV.conL]
   | some vs =>
    replace hes : (mkeyI k n z es).map ((.it .i64 c, uu) :: ·) = some es1 := hes
    obtain ⟨es', hes2, rfl⟩ := Option.map_eq_some_iff.1 hes
    clear hes
    obtain ⟨i, e, vv, f1, f2, f3, f4⟩ := key_ok (q := q) 0 g5 hes2
    rw [Nat.zero_add] at f1
    have hrun := hrun _ f1
    have hm : en[i]? = some e := by simpa using f2
    have hkeep : (Instr.keyThatStays (.int k n) (.int k n)).run P w = .ok (.int k n) w := by simp [Instr.keyThatStays, Instr.sameBits]
    refine ⟨.skip, _, j, ?_, .inr ⟨rfl, rfl⟩, trivial, Sim.mup S m2 hg ?_ g1 (en' := en.modify i fun e => { e with key := .int k n, val := z.con j }) (c' := cc) ?_⟩
    ·simp [execOp, ho, Instr.mapUpdate, run_underlying hu, m1, s1, x1, AV.con, hgo, run_checkInt hk, hrun, hst, hm, f3, hkeep]
    ·have := mkeyI_mem x2 hes2 fun e he => g3 e (List.mem_cons_of_mem _ he)
     intro e he
     rcases List.mem_cons.1 he with e1 | he
     ·subst e1; exact g3 _ List.mem_cons_self
     ·exact this e he
    ·simp only [mapL, conM, List.map_cons, Array.toList_modify]
     rw [f4]
     simp only [AV.con, hc, hub]
     rfl
  ·cases h
 ·cases h
end
end Go.AX
end
section
namespace Go.AX
open Go
section
variable {P : Program} {base nt : Nat} {D : Nat → Prop} {j : Inj} {H H' : AH} {w : World} {a : Act} {o : Oper} {v : AV} {E : Env}
theorem okL_take {l : List AV} {k : Nat} (h : AV.okL D l) : AV.okL D (l.take k) := okL_iff.2 fun v hv => okL_iff.1 h v (List.mem_of_mem_take hv)
theorem scL_take {l : List AV} {k : Nat} (h : AV.scL l = true) : AV.scL (l.take k) = true := List.all_eq_true.2 fun v hv => List.all_eq_true.1 h v (List.mem_of_mem_take hv)
theorem snd_cpy (R : Rel nt D j E a.tmps) (S : Sim base D j H w) {d s : Operand} {d' s' : Opd} {t e : TypeId} {es : Nat} {c : Call} (ho : o.op = .call c) (hc : c.callee = .builtin .copy) (ht0 : c.argTypes[0]? = some t) (hx : c.args.toList = [d, s])
  (ht : P.underlying t = some (.slice e)) (hs : sizT P e = some es) (hes : 0 < es) (hd' : resO nt d = some d') (hs' : resO nt s = some s') {n : Nat} {m : List AV} (hsc : H.sc es (ev E s') = some (n, m)) (h : vcpy es H (ev E d') n m = some (v, H')) :
  Snd P base D j H w a.eval o v H' := by
 obtain ⟨d1, d2⟩ := R.ev hd'
 obtain ⟨s1, s2⟩ := R.ev hs'
 obtain ⟨src1, src2, src3, src4, src5⟩ := src_run (P := P) S s2 hsc
 have fin : ∀ (vv : AV) HH w' j', (Builtin.copy_ c.argTypes o.type #[a.eval d, a.eval s]).run P w = .ok (vv.con j') w' → vv.ok (Dnew D H HH) → Post base D j H w HH w' j' → Snd P base D j H w a.eval o vv HH := by
  intro vv HH w' j' hr hv hp
  refine ⟨_, w', j', call_run ho hc (r := .ok (.value (vv.con j')) w') ?_, .inl rfl, hv, hp⟩
  simp [builtin, args_two hx, hr]
 have run : ∀ (ad : Option Addr) (k cp : Nat) (w' : World), a.eval d = .slice ad k cp → (∀ b, ad = some b → (storeCells b (AV.conL j (m.take (min n k * es)))).run P w = .ok () w') → (ad = none → w' = w) →
   (Builtin.copy_ c.argTypes o.type #[a.eval d, a.eval s]).run P w = .ok (.int .i64 (min n k : Nat)) w' := by
  intro ad k cp w' hd hst hn
  have hf := src2 (min n k) w (Nat.min_le_left _ _) rfl
  rw [hd, s1]
  cases ad with
  | none =>
   have := hn rfl
   subst this
   simp [Builtin.copy_, ht0, run_underlying ht, run_sizeOf' hs, src1, hf, goInt]
  | some b =>
   have := hst b rfl
   simp [Builtin.copy_, ht0, run_underlying ht, run_sizeOf' hs, src1, hf, goInt, this]
 generalize ev E d' = u at *
 unfold vcpy at h
 split at h
 ·simp only [Option.some.injEq, Prod.mk.injEq] at h
  obtain ⟨rfl, rfl⟩ := h
  refine fin _ H w j ?_ (by simp [AV.ok]) (Post.refl S)
  have := run none 0 0 w (by simpa [AV.con] using d1) (fun b hb => by cases hb) (fun _ => rfl)
  simpa [AV.con] using this
 ·rename_i b p k cp
  obtain ⟨H1, hw, h⟩ := Option.map_eq_some_iff.1 h
  simp only [Prod.mk.injEq] at h
  obtain ⟨rfl, rfl⟩ := h
  obtain ⟨w', r, pst⟩ := S.store (P := P) (o := p) d2 hw (okL_take src3) (scL_take src4)
  refine fin _ H1 w' j ?_ (by simp [AV.ok]) pst
  exact run (some ((j b).at p)) k cp w' d1 (fun q hq => by obtain rfl := Option.some.inj hq; exact r) (fun hn => by cases hn)
 ·rename_i b p q k es'
  split at h
  ·rename_i hcnd
   obtain ⟨rfl, _, hk, hfit, hown⟩ := hcnd
   obtain ⟨H1, hw, h⟩ := Option.map_eq_some_iff.1 h
   simp only [Prod.mk.injEq] at h
   obtain ⟨rfl, rfl⟩ := h
   obtain ⟨w', r, pst⟩ := S.store_k (P := P) (o := p) d2 hw (okL_take src3) (scL_take src4)
   obtain ⟨_, hne⟩ := room S d2 hes hown hfit
   refine fin _ H1 w' j ?_ (by simp [AV.ok]) pst
   have hz := hne hk
   refine run (some ⟨(j b).k, p, none⟩) k (((j b).e - p) / es') w' (by rw [d1]; simp only [AV.con, if_neg hz]) (fun q hq => by obtain rfl := Option.some.inj hq; exact r) (fun hn => by cases hn)
  ·cases h
 ·cases h
theorem map_pair {x : Option AV} {v : AV} {H H' : AH} (h : x.map (·, H) = some (v, H')) : x = some v ∧ H' = H := by
 obtain ⟨u, hu, he⟩ := Option.map_eq_some_iff.1 h
 simp only [Prod.mk.injEq] at he
 obtain ⟨rfl, rfl⟩ := he
 exact ⟨hu, rfl⟩
theorem vop_sound (R : Rel nt D j E a.tmps) (S : Sim base D j H w) {vo : VOp} (hr : resV P nt o = some vo) (h : vop vo E H = some (v, H')) : Snd P base D j H w a.eval o v H' := by
 unfold resV at hr
 split at hr
 ·rename_i x ho
  obtain ⟨x', hx, rfl⟩ := Option.map_eq_some_iff.1 hr
  simp only [vop, Option.some.injEq, Prod.mk.injEq] at h; obtain ⟨rfl, rfl⟩ := h
  exact snd_mv R S (.inl ho) hx
 ·rename_i x ho
  obtain ⟨x', hx, rfl⟩ := Option.map_eq_some_iff.1 hr
  simp only [vop, Option.some.injEq, Prod.mk.injEq] at h; obtain ⟨rfl, rfl⟩ := h
  exact snd_mv R S (.inr ho) hx
 ·rename_i c x y ho
  simp only [Option.bind_eq_some_iff, Option.map_eq_some_iff] at hr
  obtain ⟨c', hc, x', hx, y', hy, rfl⟩ := hr
  simp only [vop, if_true, Bool.false_eq_true, if_false] at h
  have hq := map_pair h
  clear h
  obtain ⟨h, rfl⟩ := hq
  exact snd_pick R S ho hc hx hy h
 ·rename_i e ho
  obtain ⟨z, hz, rfl⟩ := Option.map_eq_some_iff.1 hr
  simp only [vop, Option.some.injEq, Prod.mk.injEq] at h; obtain ⟨rfl, rfl⟩ := h
  exact snd_alloc S ho hz
 ·rename_i e x ho
  obtain ⟨x', hx, rfl⟩ := Option.map_eq_some_iff.1 hr
  obtain ⟨l, hl, h⟩ := Option.map_eq_some_iff.1 h
  simp only [Prod.mk.injEq] at h; obtain ⟨rfl, rfl⟩ := h
  exact snd_box R S ho hx hl
 ·rename_i t ps ho
  simp only [Option.bind_eq_some_iff, Option.map_eq_some_iff] at hr
  obtain ⟨pl, hpl, z, hz, q, hq, rfl⟩ := hr
  obtain ⟨l, hl, h⟩ := Option.map_eq_some_iff.1 h
  simp only [Prod.mk.injEq] at h; obtain ⟨rfl, rfl⟩ := h
  exact snd_bld R S ho hpl hz hq hl
 ·rename_i t n ps ho
  split at hr
  ·rename_i e hu
   simp only [Option.bind_eq_some_iff] at hr
   obtain ⟨s, hs, hr⟩ := hr
   split at hr
   ·rename_i hns
    simp only [Option.bind_eq_some_iff] at hr
    obtain ⟨z, hz, hr⟩ := hr
    split at hr
    ·rename_i hzl
     obtain ⟨q, hq, rfl⟩ := Option.map_eq_some_iff.1 hr
     obtain ⟨l, hl, h⟩ := Option.map_eq_some_iff.1 h
     simp only [Prod.mk.injEq] at h; obtain ⟨rfl, rfl⟩ := h
     exact snd_bsl R S ho hu hs hns.1 hns.2 hz hzl hq hl
    ·cases hr
   ·cases hr
  ·cases hr
 ·rename_i t x ho
  simp only [Option.bind_eq_some_iff, Option.map_eq_some_iff] at hr
  obtain ⟨ag, ha, n, hn, x', hx, rfl⟩ := hr
  cases ag with
  | true =>
   simp only [vop, if_true, Bool.false_eq_true, if_false] at h
   have hq := map_pair h
   clear h
   obtain ⟨h, rfl⟩ := hq
   exact snd_ld R S ho ha hn hx h
  | false =>
   simp only [vop, if_true, Bool.false_eq_true, if_false] at h
   have hq := map_pair h
   clear h
   obtain ⟨h, rfl⟩ := hq
   exact snd_ld1 R S ho ha hx h
 ·rename_i t p x ho
  simp only [Option.bind_eq_some_iff, Option.map_eq_some_iff] at hr
  obtain ⟨n, hn, p', hp, x', hx, rfl⟩ := hr
  exact snd_sto R S ho hn hp hx h
 ·rename_i x ho
  obtain ⟨x', hx, rfl⟩ := Option.map_eq_some_iff.1 hr
  simp only [vop, if_true, Bool.false_eq_true, if_false] at h
  have hq := map_pair h
  clear h
  obtain ⟨h, rfl⟩ := hq
  exact snd_nilc R S ho hx h
 ·rename_i op t x y t' ho
  simp only [Option.bind_eq_some_iff, Option.map_eq_some_iff] at hr
  obtain ⟨x', hx, y', hy, rfl⟩ := hr
  simp only [vop, if_true, Bool.false_eq_true, if_false] at h
  have hq := map_pair h
  clear h
  obtain ⟨h, rfl⟩ := hq
  exact snd_bin R S ho hx hy h
 ·rename_i op t x ho
  obtain ⟨x', hx, rfl⟩ := Option.map_eq_some_iff.1 hr
  simp only [vop, if_true, Bool.false_eq_true, if_false] at h
  have hq := map_pair h
  clear h
  obtain ⟨h, rfl⟩ := hq
  exact snd_un R S ho hx h
 ·rename_i s d x ho
  split at hr
  ·rename_i k k' hs hd
   obtain ⟨x', hx, rfl⟩ := Option.map_eq_some_iff.1 hr
   simp only [vop, if_true, Bool.false_eq_true, if_false] at h
   have hq := map_pair h
   clear h
   obtain ⟨h, rfl⟩ := hq
   exact snd_cvi R S ho hs hd hx h
  ·rename_i e e' hs hd
   split at hr
   ·rename_i he
    obtain ⟨rfl, he⟩ := he
    obtain ⟨x', hx, rfl⟩ := Option.map_eq_some_iff.1 hr
    simp only [vop, if_true, Bool.false_eq_true, if_false] at h
    have hq := map_pair h
    clear h
    obtain ⟨h, rfl⟩ := hq
    exact snd_cvsame R S ho hd he hx h
   ·cases hr
  ·rename_i e hs hd
   split at hr
   ·rename_i he
    obtain ⟨x', hx, rfl⟩ := Option.map_eq_some_iff.1 hr
    simp only [vop, if_true, Bool.false_eq_true, if_false] at h
    have hq := map_pair h
    clear h
    obtain ⟨h, rfl⟩ := hq
    exact snd_b2s R S ho hs hd he hx h
   ·cases hr
  ·rename_i e hs hd
   split at hr
   ·rename_i he
    obtain ⟨x', hx, rfl⟩ := Option.map_eq_some_iff.1 hr
    simp only [vop] at h
    exact snd_s2b R S ho hs hd he hx h
   ·cases hr
  ·cases hr
 ·rename_i t x ho
  split at hr
  ·cases hr
  ·cases hr
  ·rename_i hne1 hne2
   obtain ⟨x', hx, rfl⟩ := Option.map_eq_some_iff.1 hr
   simp only [vop, Option.some.injEq, Prod.mk.injEq] at h; obtain ⟨rfl, rfl⟩ := h
   cases hu : P.underlying t with
   | none => exact absurd hu hne2
   | some dd => exact snd_mkif R S ho hu (fun ms e => hne1 ms (by rw [hu, e])) hx
 ·rename_i f p c ho
  simp only [Option.bind_eq_some_iff, Option.map_eq_some_iff] at hr
  obtain ⟨p', hp, c', hc, rfl⟩ := hr
  simp only [vop, Option.some.injEq, Prod.mk.injEq] at h; obtain ⟨rfl, rfl⟩ := h
  exact snd_mkfn R S ho hp hc
 ·rename_i t l c ho
  split at hr
  ·rename_i e hu
   simp only [Option.bind_eq_some_iff] at hr
   obtain ⟨i, hi, z, hz, hr⟩ := hr
   split at hr
   ·rename_i hzl
    simp only [Option.bind_eq_some_iff, Option.map_eq_some_iff] at hr
    obtain ⟨l', hl, c', hc, rfl⟩ := hr
    exact snd_mks R S ho hu hi hz hzl hl hc h
   ·cases hr
  ·cases hr
 ·rename_i t x lo hi mx ho
  split at hr
  ·rename_i e hu
   simp only [Option.bind_eq_some_iff] at hr
   obtain ⟨s, hs, x', hx, lo', hlo, hi', hhi, mx', hmx, hr⟩ := hr
   split at hr
   ·cases hr
   ·rename_i hsome
    simp only [Option.some.injEq] at hr; subst hr
    simp only [vop, if_true, Bool.false_eq_true, if_false] at h
    have hq := map_pair h
    clear h
    obtain ⟨h, rfl⟩ := hq
    exact snd_slc R S ho hu hs hx hlo hhi hmx (Bool.eq_false_iff.2 hsome) h
  ·rename_i hu
   split at hr
   ·cases hr
   ·rename_i hmx
    simp only [Option.bind_eq_some_iff, Option.map_eq_some_iff] at hr
    obtain ⟨x', hx, lo', hlo, hi', hhi, rfl⟩ := hr
    simp only [vop, if_true, Bool.false_eq_true, if_false] at h
    have hq := map_pair h
    clear h
    obtain ⟨h, rfl⟩ := hq
    have : mx = none := by cases mx <;> simp at hmx ⊢
    subst this
    exact snd_slcs R S ho hu hx hlo hhi h
  ·rename_i n e hu
   simp only [Option.bind_eq_some_iff] at hr
   obtain ⟨s, hs, x', hx, lo', hlo, hi', hhi, mx', hmx, hr⟩ := hr
   split at hr
   ·cases hr
   ·rename_i hsome
    simp only [Option.some.injEq] at hr; subst hr
    simp only [vop, if_true, Bool.false_eq_true, if_false] at h
    have hq := map_pair h
    clear h
    obtain ⟨h, rfl⟩ := hq
    exact snd_slca R S ho hu hs hx hlo hhi hmx (Bool.eq_false_iff.2 hsome) h
  ·cases hr
 ·rename_i t x i ho
  simp only [Option.bind_eq_some_iff] at hr
  obtain ⟨f, hf, s, hs, hr⟩ := hr
  split at hr
  ·cases hr
  ·rename_i hs0
   obtain ⟨x', hx, rfl⟩ := Option.map_eq_some_iff.1 hr
   simp only [vop, if_true, Bool.false_eq_true, if_false] at h
   have hq := map_pair h
   clear h
   obtain ⟨h, rfl⟩ := hq
   exact snd_fa R S ho hf hs hs0 hx h
 ·rename_i t x i ho
  simp only [Option.bind_eq_some_iff, Option.map_eq_some_iff] at hr
  obtain ⟨f, hf, s, hs, ag, ha, x', hx, rfl⟩ := hr
  simp only [vop, if_true, Bool.false_eq_true, if_false] at h
  have hq := map_pair h
  clear h
  obtain ⟨h, rfl⟩ := hq
  exact snd_fld R S ho hf hs ha hx h
 ·rename_i t x i ho
  split at hr
  ·rename_i e hu
   simp only [Option.bind_eq_some_iff, Option.map_eq_some_iff] at hr
   obtain ⟨s, hs, x', hx, i', hi, rfl⟩ := hr
   simp only [vop, if_true, Bool.false_eq_true, if_false] at h
   have hq := map_pair h
   clear h
   obtain ⟨h, rfl⟩ := hq
   exact snd_ia R S ho hu hs hx hi h
  ·rename_i n e hu
   simp only [Option.bind_eq_some_iff, Option.map_eq_some_iff] at hr
   obtain ⟨s, hs, x', hx, i', hi, rfl⟩ := hr
   simp only [vop, if_true, Bool.false_eq_true, if_false] at h
   have hq := map_pair h
   clear h
   obtain ⟨h, rfl⟩ := hq
   exact snd_iaa R S ho hu hs hx hi h
  ·cases hr
 ·rename_i t x i ho
  split at hr
  ·rename_i n e hu
   simp only [Option.bind_eq_some_iff, Option.map_eq_some_iff] at hr
   obtain ⟨s, hs, ag, ha, x', hx, i', hi, rfl⟩ := hr
   simp only [vop, if_true, Bool.false_eq_true, if_false] at h
   have hq := map_pair h
   clear h
   obtain ⟨h, rfl⟩ := hq
   exact snd_ix R S ho hu hs ha hx hi h
  ·rename_i hu
   simp only [Option.bind_eq_some_iff, Option.map_eq_some_iff] at hr
   obtain ⟨x', hx, i', hi, rfl⟩ := hr
   simp only [vop, if_true, Bool.false_eq_true, if_false] at h
   have hq := map_pair h
   clear h
   obtain ⟨h, rfl⟩ := hq
   exact snd_ixs R S ho hu hx hi h
  ·cases hr
 ·rename_i x i ho
  obtain ⟨x', hx, rfl⟩ := Option.map_eq_some_iff.1 hr
  simp only [vop, if_true, Bool.false_eq_true, if_false] at h
  have hq := map_pair h
  clear h
  obtain ⟨h, rfl⟩ := hq
  exact snd_ext R S ho hx h
 ·rename_i x xt t ok ho
  split at hr
  ·cases hr
  ·cases hr
  ·rename_i dd hne hu
   split at hr
   ·rename_i hok
    simp only [Option.bind_eq_some_iff, Option.map_eq_some_iff] at hr
    obtain ⟨z, ⟨i, hi, zv, hzv, hz⟩, x', hx, rfl⟩ := hr
    simp only [vop, if_true, Bool.false_eq_true, if_false] at h
    have hq := map_pair h
    clear h
    obtain ⟨h, rfl⟩ := hq
    subst hok
    exact snd_ta R S ho hu (fun ms e => hne ms e) (by simp [hi, hzv, hz]) hx h
   ·cases hr
 ·rename_i t r ho
  split at hr
  ·rename_i hr0
   split at hr
   ·rename_i k e hu
    simp only [Option.some.injEq] at hr; subst hr
    simp only [vop, Option.some.injEq, Prod.mk.injEq] at h; obtain ⟨rfl, rfl⟩ := h
    exact snd_mkm S ho hr0 hu
   ·cases hr
  ·cases hr
 ·rename_i t x i ok ho
  simp only [Option.bind_eq_some_iff, Option.map_eq_some_iff] at hr
  obtain ⟨z, hz, x', hx, i', hi, rfl⟩ := hr
  simp only [vop] at h
  have hq := map_pair h
  clear h
  obtain ⟨h, rfl⟩ := hq
  exact snd_lkp R S ho hz hx hi h
 ·rename_i t x i ho
  simp only [Option.bind_eq_some_iff, Option.map_eq_some_iff] at hr
  obtain ⟨z, hz, x', hx, i', hi, rfl⟩ := hr
  simp only [vop] at h
  exact snd_ment R S ho hz hx hi h
 ·rename_i t m s x ho
  simp only [Option.bind_eq_some_iff, Option.map_eq_some_iff] at hr
  obtain ⟨m', hm, s', hs, x', hx, rfl⟩ := hr
  simp only [vop] at h
  exact snd_mest R S ho hm hs hx h
 ·rename_i t m s x ho
  simp only [Option.bind_eq_some_iff, Option.map_eq_some_iff] at hr
  obtain ⟨z, hz, m', hm, s', hs, x', hx, rfl⟩ := hr
  simp only [vop] at h
  exact snd_mset R S ho hz hm hs hx h
 ·rename_i c ho
  unfold resCall at hr
  split at hr
  ·rename_i hc
   split at hr
   ·rename_i t x ht hx
    split at hr
    ·rename_i hu
     obtain ⟨x', hx', rfl⟩ := Option.map_eq_some_iff.1 hr
     simp only [vop, if_true, Bool.false_eq_true, if_false] at h
     have hq := map_pair h
     clear h
     obtain ⟨h, rfl⟩ := hq
     exact snd_len R S ho hc ht hx hx' (.inl ⟨rfl, hu⟩) h
    ·rename_i e hu
     obtain ⟨x', hx', rfl⟩ := Option.map_eq_some_iff.1 hr
     simp only [vop, if_true, Bool.false_eq_true, if_false] at h
     have hq := map_pair h
     clear h
     obtain ⟨h, rfl⟩ := hq
     exact snd_len R S ho hc ht hx hx' (.inr (.inl ⟨rfl, e, hu⟩)) h
    ·rename_i k e hu
     obtain ⟨x', hx', rfl⟩ := Option.map_eq_some_iff.1 hr
     simp only [vop, if_true, Bool.false_eq_true, if_false] at h
     have hq := map_pair h
     clear h
     obtain ⟨h, rfl⟩ := hq
     exact snd_len R S ho hc ht hx hx' (.inr (.inr ⟨rfl, k, e, hu⟩)) h
    ·rename_i n e hu
     simp only [Option.some.injEq] at hr; subst hr
     simp only [vop, Option.some.injEq, Prod.mk.injEq] at h; obtain ⟨rfl, rfl⟩ := h
     exact snd_lenk S ho hc ht hx (.inl hu)
    ·rename_i ar hu
     split at hr
     ·rename_i n e hv
      simp only [Option.some.injEq] at hr; subst hr
      simp only [vop, Option.some.injEq, Prod.mk.injEq] at h; obtain ⟨rfl, rfl⟩ := h
      exact snd_lenk S ho hc ht hx (.inr ⟨ar, hu, hv⟩)
     ·cases hr
    ·cases hr
   ·cases hr
  ·rename_i hc
   split at hr
   ·rename_i t x ht hx
    split at hr
    ·rename_i e hu
     obtain ⟨x', hx', rfl⟩ := Option.map_eq_some_iff.1 hr
     simp only [vop, if_true, Bool.false_eq_true, if_false] at h
     have hq := map_pair h
     clear h
     obtain ⟨h, rfl⟩ := hq
     exact snd_cap R S ho hc ht hx hx' hu h
    ·cases hr
   ·cases hr
  ·rename_i hc
   obtain ⟨xs, hxs, rfl⟩ := Option.map_eq_some_iff.1 hr
   simp only [vop] at h
   cases xs with
   | nil => cases h
   | cons x r =>
    have hq := map_pair h
    clear h
    obtain ⟨h, rfl⟩ := hq
    exact snd_mm (mx := false) R S ho hc hxs h
  ·rename_i hc
   obtain ⟨xs, hxs, rfl⟩ := Option.map_eq_some_iff.1 hr
   simp only [vop] at h
   cases xs with
   | nil => cases h
   | cons x r =>
    have hq := map_pair h
    clear h
    obtain ⟨h, rfl⟩ := hq
    exact snd_mm (mx := true) R S ho hc hxs h
  ·rename_i hc
   split at hr
   ·rename_i t u s x htu hx
    split at hr
    ·rename_i e e' ht hu
     simp only [Option.bind_eq_some_iff] at hr
     obtain ⟨i, hi, hr⟩ := hr
     split at hr
     ·rename_i hcnd
      simp only [Option.bind_eq_some_iff, Option.map_eq_some_iff] at hr
      obtain ⟨s', hs', x', hx', rfl⟩ := hr
      simp only [vop, Option.bind_eq_some_iff] at h
      obtain ⟨⟨n, m⟩, hnm, h⟩ := h
      exact snd_app R S ho hc htu hx ht ⟨e', hu⟩ hi hcnd.1 hcnd.2.1 hcnd.2.2 hs' hx' hnm h
     ·cases hr
    ·rename_i e kd ht hu
     simp only [Option.bind_eq_some_iff] at hr
     obtain ⟨i, hi, z, hz, hr⟩ := hr
     split at hr
     ·rename_i hcnd
      simp only [Option.bind_eq_some_iff, Option.map_eq_some_iff] at hr
      obtain ⟨s', hs', x', hx', rfl⟩ := hr
      simp only [vop] at h
      exact snd_appn R S ho hc htu hx ht hu hi hz hcnd.1 hcnd.2.1 hcnd.2.2 hs' hx' h
     ·cases hr
    ·cases hr
   ·cases hr
  ·rename_i hc
   split at hr
   ·rename_i t d s ht0 hx
    split at hr
    ·rename_i e ht
     simp only [Option.bind_eq_some_iff] at hr
     obtain ⟨n, hn, hr⟩ := hr
     split at hr
     ·rename_i hn0
      simp only [Option.bind_eq_some_iff, Option.map_eq_some_iff] at hr
      obtain ⟨d', hd', s', hs', rfl⟩ := hr
      simp only [vop, Option.bind_eq_some_iff] at h
      obtain ⟨⟨q, m⟩, hnm, h⟩ := h
      exact snd_cpy R S ho hc ht0 hx ht hn hn0 hd' hs' hnm h
     ·cases hr
    ·cases hr
   ·cases hr
  ·cases hr
 ·cases hr
end
end Go.AX
end
