/- AX, part A: values told over an abstract heap, and what they stand for in a world. -/
import Derived.WalkKit
import Derived.Laws.Rows
import Derived.Laws.AppendOwn
import Derived.Orders
import Derived.Defers
import Derived.Recover
set_option linter.unusedSimpArgs false
set_option linter.unusedVariables false
namespace Go.AX

/-- Where an abstract block lies: the world's block, and how many cells that has. -/
structure CB where
  k : Nat
  e : Nat
  d : Nat
  s : Option Nat
abbrev CB.new (k e : Nat) : CB := ⟨k, e, 0, none⟩
/-- A place in it. -/
def CB.at (c : CB) (o : Nat) : Addr := (⟨c.k, c.d, c.s⟩ : Addr).add o
abbrev Inj := Nat → CB

/-- A value, its pointers by abstract blocks. -/
inductive AV where
  | bo (x : Bool)
  | it (k : IntKind) (n : Int)
  | fl (k : FloatKind) (n : Nat)
  | st (x : ByteArray)
  | np
  | pt (b o : Nat)
  | sn
  | sl (b o n c : Nat)
  | sg (b o q n es : Nat)
  | fn (f : Fn) (a c : List AV)
  | nf
  | fc (t : TypeId) (v : AV)
  | ni
  | ag (l : List AV)
  | tu (l : List AV)
  | mn
  | mp (r : Nat)
  deriving Inhabited

mutual
def AV.con (j : Inj) : AV → Value
  | .bo x => .bool x
  | .it k n => .int k n
  | .fl k n => .float k n
  | .st x => .string x
  | .np => .pointer none
  | .pt b o => .pointer (some ((j b).at o))
  | .sn => .slice none 0 0
  | .sl b o n c => .slice (some ((j b).at o)) n c
  | .sg b o q n es => .slice (some ⟨(j b).k, if ((j b).e - o) / es = 0 then q else o, none⟩) n (((j b).e - o) / es)
  | .fn f a c => .func f (AV.conL j a).toArray (AV.conL j c).toArray
  | .nf => .nilFunc
  | .fc t v => .iface t (v.con j)
  | .ni => .nilIface
  | .ag l => .agg (AV.conL j l).toArray
  | .tu l => .tuple (AV.conL j l).toArray
  | .mn => .map none
  | .mp r => .map (some (j r).k)
def AV.conL (j : Inj) : List AV → List Value
  | [] => []
  | v :: r => v.con j :: AV.conL j r
end

theorem conL_eq (j : Inj) : ∀ l, AV.conL j l = l.map (AV.con j)
  | [] => rfl
  | v :: r => by simp only [AV.conL, List.map_cons, conL_eq j r]

/-- One cell of memory. -/
def AV.sc : AV → Bool
  | .ag _ => false
  | .tu _ => false
  | _ => true
def AV.scL (l : List AV) : Bool := l.all AV.sc
mutual
/-- All its pointers lead into D. -/
def AV.ok (D : Nat → Prop) : AV → Prop
  | .pt b _ => D b
  | .sl b _ _ _ => D b
  | .sg b _ _ _ _ => D b
  | .fn _ a c => AV.okL D a ∧ AV.okL D c
  | .fc _ v => v.ok D
  | .ag l => AV.okL D l ∧ AV.scL l = true
  | .tu l => AV.okL D l
  | .mp r => D r
  | _ => True
def AV.okL (D : Nat → Prop) : List AV → Prop
  | [] => True
  | v :: r => v.ok D ∧ AV.okL D r
end

theorem okL_iff {D : Nat → Prop} : ∀ {l : List AV}, AV.okL D l ↔ ∀ v ∈ l, v.ok D
  | [] => by simp [AV.okL]
  | v :: r => by simp [AV.okL, okL_iff (l := r)]

mutual
theorem ok_mono {D D' : Nat → Prop} (h : ∀ b, D b → D' b) : ∀ (v : AV), v.ok D → v.ok D'
  | .bo _, _ | .it _ _, _ | .fl _ _, _ | .st _, _ | .np, _ | .sn, _ | .nf, _ | .ni, _ | .mn, _ => trivial
  | .pt b _, hv => h b hv
  | .sl b _ _ _, hv => h b hv
  | .sg b _ _ _ _, hv => h b hv
  | .mp b, hv => h b hv
  | .fn _ a c, hv => ⟨okL_mono h a hv.1, okL_mono h c hv.2⟩
  | .fc _ v, hv => ok_mono h v hv
  | .ag l, hv => ⟨okL_mono h l hv.1, hv.2⟩
  | .tu l, hv => okL_mono h l hv
theorem okL_mono {D D' : Nat → Prop} (h : ∀ b, D b → D' b) : ∀ (l : List AV), AV.okL D l → AV.okL D' l
  | [], _ => by simp only [AV.okL]
  | v :: r, hv => ⟨ok_mono h v hv.1, okL_mono h r hv.2⟩
end

mutual
theorem con_congr {D : Nat → Prop} {j j' : Inj} (h : ∀ b, D b → j' b = j b) : ∀ (v : AV), v.ok D → v.con j' = v.con j
  | .bo _, _ | .it _ _, _ | .fl _ _, _ | .st _, _ | .np, _ | .sn, _ | .nf, _ | .ni, _ | .mn, _ => rfl
  | .pt b _, hv => by simp only [AV.con, h b hv]
  | .sl b _ _ _, hv => by simp only [AV.con, h b hv]
  | .sg b _ _ _ _, hv => by simp only [AV.con, h b hv]
  | .mp b, hv => by simp only [AV.con, h b hv]
  | .fn _ a c, hv => by simp only [AV.con, conL_congr h a hv.1, conL_congr h c hv.2]
  | .fc _ v, hv => by simp only [AV.con, con_congr h v hv]
  | .ag l, hv => by simp only [AV.con, conL_congr h l hv.1]
  | .tu l, hv => by simp only [AV.con, conL_congr h l hv]
theorem conL_congr {D : Nat → Prop} {j j' : Inj} (h : ∀ b, D b → j' b = j b) : ∀ (l : List AV), AV.okL D l → AV.conL j' l = AV.conL j l
  | [], _ => rfl
  | v :: r, hv => by simp only [AV.conL, con_congr h v hv.1, conL_congr h r hv.2]
end

theorem at_add {c : CB} {o i : Nat} : (c.at o).add i = c.at (o + i) := by
  unfold CB.at Addr.add
  by_cases h : o = 0 <;> by_cases h' : i = 0 <;> simp [h, h', Nat.add_assoc]
theorem at_own {c : CB} {o : Nat} (hd : c.d = 0) (hs : c.s = none) : c.at o = ⟨c.k, o, none⟩ := by
  unfold CB.at Addr.add
  by_cases h : o = 0 <;> simp [h, hd, hs]
theorem at_new {k e o : Nat} : (CB.new k e).at o = ⟨k, o, none⟩ := at_own rfl rfl

/-! ### The heap -/
inductive Blk where
  | no
  | ro (l : List AV)
  | rw (l : List AV)
  | mp (es : List (AV × AV))
  deriving Inhabited
def Blk.cells : Blk → List AV
  | .ro l => l
  | .rw l => l
  | _ => []
/-- One that may be written. -/
def Blk.own : Blk → Bool
  | .rw _ => true
  | .mp _ => true
  | _ => false
structure AH where
  nx : Nat
  g : Nat → Blk

/-- A row of the world's: what an abstract block's cells stand for. -/
def RowAt (w : World) (c : CB) (vs : List Value) : Prop :=
  ∃ cs t fr, w.heap[c.k]? = some (.cells cs t fr) ∧ ∀ (i : Nat) v, vs[i]? = some v → c.s = none ∧ cs[c.d + i]? = some v
def OwnAt (w : World) (c : CB) (vs : List Value) : Prop :=
  ∃ cs t fr, w.heap[c.k]? = some (.cells cs t fr) ∧ (∀ (i : Nat) v, vs[i]? = some v → cs[i]? = some v) ∧ cs.size = c.e ∧ vs.length ≤ c.e ∧
    (fr.1 = fr.2 ∨ cs.size ≤ fr.1)
theorem OwnAt.row {w : World} {c : CB} {vs : List Value} (h : OwnAt w c vs) (hd : c.d = 0) (hs : c.s = none) : RowAt w c vs := by
  obtain ⟨cs, t, fr, h1, h2, _⟩ := h
  exact ⟨cs, t, fr, h1, fun i v hv => ⟨hs, by rw [hd, Nat.zero_add]; exact h2 i v hv⟩⟩

def MapAt (w : World) (k : Nat) (es : List (Value × Value)) : Prop :=
  ∃ (en : Array MapEntry) (c : Nat), w.heap[k]? = some (.map en c) ∧ en.toList.map (fun e => (e.key, e.val)) = es
def conM (j : Inj) (es : List (AV × AV)) : List (Value × Value) := es.map fun e => (e.1.con j, e.2.con j)
def okM (D : Nat → Prop) (es : List (AV × AV)) : Prop := ∀ e ∈ es, e.1.ok D ∧ e.2.ok D
theorem okM_mono {D D' : Nat → Prop} (h : ∀ b, D b → D' b) {es : List (AV × AV)} (he : okM D es) : okM D' es := fun e hm => ⟨ok_mono h _ (he e hm).1, ok_mono h _ (he e hm).2⟩
theorem conM_congr {D : Nat → Prop} {j j' : Inj} (h : ∀ b, D b → j' b = j b) {es : List (AV × AV)} (he : okM D es) : conM j' es = conM j es :=
  List.map_congr_left fun e hm => by rw [con_congr h _ (he e hm).1, con_congr h _ (he e hm).2]

/-- The abstract heap's blocks among D lie in the world as the injection says. -/
structure Sim (base : Nat) (D : Nat → Prop) (j : Inj) (H : AH) (w : World) : Prop where
  lt : ∀ b, D b → b < H.nx
  wf : ∀ b, H.nx ≤ b → H.g b = .no
  size : base ≤ w.heap.size
  ro : ∀ b l, D b → H.g b = .ro l → RowAt w (j b) (AV.conL j l) ∧ AV.okL D l ∧ AV.scL l = true
  rw : ∀ b l, D b → H.g b = .rw l → OwnAt w (j b) (AV.conL j l) ∧ AV.okL D l ∧ AV.scL l = true ∧ base ≤ (j b).k ∧ (j b).d = 0 ∧ (j b).s = none
  mp : ∀ b es, D b → H.g b = .mp es → MapAt w (j b).k (conM j es) ∧ okM D es ∧ base ≤ (j b).k
  inj : ∀ b b', D b → D b' → (H.g b).own = true → H.g b' ≠ .no → (j b').k = (j b).k → b' = b

/-- What of the world may not turn. -/
structure Fr (D : Nat → Prop) (j : Inj) (H : AH) (w w' : World) : Prop where
  os : w'.os = w.os
  tape : w'.tape = w.tape
  output : w'.output = w.output
  size : w.heap.size ≤ w'.heap.size
  block : ∀ k, k < w.heap.size → (∀ b, D b → (H.g b).own = true → (j b).k ≠ k) → w'.heap[k]? = w.heap[k]?

/-- How a heap may go on. -/
structure Evo (H H' : AH) : Prop where
  nx : H.nx ≤ H'.nx
  no : ∀ b, b < H.nx → H.g b = .no → H'.g b = .no
  ro : ∀ b l, b < H.nx → H.g b = .ro l → H'.g b = .ro l
  own : ∀ b, b < H.nx → (H.g b).own = true → H'.g b = .no ∨ (H'.g b).own = true
theorem Evo.refl (H : AH) : Evo H H := ⟨Nat.le_refl _, fun _ _ h => h, fun _ _ _ h => h, fun b _ h => .inr h⟩
theorem Evo.trans {H H1 H2 : AH} (a : Evo H H1) (c : Evo H1 H2) : Evo H H2 := by
  refine ⟨Nat.le_trans a.nx c.nx, fun b hb h => c.no b (Nat.lt_of_lt_of_le hb a.nx) (a.no b hb h), fun b l hb h => c.ro b l (Nat.lt_of_lt_of_le hb a.nx) (a.ro b l hb h), fun b hb h => ?_⟩
  have hb' := Nat.lt_of_lt_of_le hb a.nx
  rcases a.own b hb h with h1 | h1
  · exact .inl (c.no b hb' h1)
  · exact c.own b hb' h1
theorem Evo.back {H H' : AH} (a : Evo H H') {b : Nat} (hb : b < H.nx) (h : (H'.g b).own = true) : (H.g b).own = true := by
  cases hg : H.g b with
  | no => rw [a.no b hb hg] at h; simp [Blk.own] at h
  | ro l => rw [a.ro b l hb hg] at h; simp [Blk.own] at h
  | rw l => rfl
  | mp l => rfl

/-- D, and the blocks that are new. -/
def Dnew (D : Nat → Prop) (H H' : AH) (b : Nat) : Prop := D b ∨ (H.nx ≤ b ∧ b < H'.nx)

/-- What a run of some code leaves. -/
structure Post (base : Nat) (D : Nat → Prop) (j : Inj) (H : AH) (w : World) (H' : AH) (w' : World) (j' : Inj) : Prop where
  evo : Evo H H'
  agr : ∀ b, D b → j' b = j b
  sim : Sim base (Dnew D H H') j' H' w'
  fr : Fr D j H w w'
  fresh : ∀ b, H.nx ≤ b → b < H'.nx → H'.g b ≠ .no → w.heap.size ≤ (j' b).k ∨ ∃ b0, D b0 ∧ (H.g b0).own = true ∧ H'.g b0 = .no ∧ (j b0).k = (j' b).k

theorem Dnew.of {D : Nat → Prop} {H H' : AH} {b : Nat} (h : D b) : Dnew D H H' b := .inl h
theorem Dnew.self {D : Nat → Prop} {H : AH} {b : Nat} : Dnew D H H b ↔ D b := ⟨fun h => h.elim id fun ⟨h1, h2⟩ => by omega, .inl⟩

theorem Fr.refl (D : Nat → Prop) (j : Inj) (H : AH) (w : World) : Fr D j H w w := ⟨rfl, rfl, rfl, Nat.le_refl _, fun _ _ _ => rfl⟩

theorem Sim.iffD {base : Nat} {D D' : Nat → Prop} {j : Inj} {H : AH} {w : World} (h : Sim base D j H w) (e : ∀ b, D' b ↔ D b) : Sim base D' j H w := by
  have : D' = D := funext fun b => propext (e b)
  rw [this]; exact h

theorem Post.refl {base : Nat} {D : Nat → Prop} {j : Inj} {H : AH} {w : World} (h : Sim base D j H w) : Post base D j H w H w j :=
  ⟨Evo.refl H, fun _ _ => rfl, h.iffD fun _ => Dnew.self, Fr.refl .., fun b h1 h2 _ => by omega⟩

theorem Post.trans {base : Nat} {D : Nat → Prop} {j j1 j2 : Inj} {H H1 H2 : AH} {w w1 w2 : World}
    (a : Post base D j H w H1 w1 j1) (c : Post base (Dnew D H H1) j1 H1 w1 H2 w2 j2) (hlt : ∀ b, D b → b < H.nx) : Post base D j H w H2 w2 j2 := by
  have e1 := a.evo.nx
  have e2 := c.evo.nx
  refine ⟨a.evo.trans c.evo, fun b hb => (c.agr b (.inl hb)).trans (a.agr b hb), c.sim.iffD fun b => ?_, ⟨c.fr.os.trans a.fr.os, c.fr.tape.trans a.fr.tape, c.fr.output.trans a.fr.output, Nat.le_trans a.fr.size c.fr.size, ?_⟩, ?_⟩
  · constructor
    · rintro (h | ⟨h1, h2⟩)
      · exact .inl (.inl h)
      · rcases Nat.lt_or_ge b H1.nx with h3 | h3
        · exact .inl (.inr ⟨h1, h3⟩)
        · exact .inr ⟨h3, h2⟩
    · rintro ((h | ⟨h1, h2⟩) | ⟨h1, h2⟩)
      · exact .inl h
      · exact .inr ⟨h1, by omega⟩
      · exact .inr ⟨by omega, h2⟩
  · intro k hk hn
    have hk1 : w1.heap[k]? = w.heap[k]? := a.fr.block k hk hn
    rw [← hk1]
    refine c.fr.block k (Nat.lt_of_lt_of_le hk a.fr.size) ?_
    intro b hb hl
    rcases hb with hb | ⟨h1, h2⟩
    · rw [a.agr b hb]
      exact hn b hb (a.evo.back (hlt b hb) hl)
    · rcases a.fresh b h1 h2 (fun e => by rw [e] at hl; simp [Blk.own] at hl) with h3 | ⟨b0, hb0, hg0, _, hk0⟩
      · omega
      · rw [← hk0]; exact hn b0 hb0 hg0
  · intro b h1 h2 hno
    rcases Nat.lt_or_ge b H1.nx with h3 | h3
    · have hD1 : Dnew D H H1 b := .inr ⟨h1, h3⟩
      have hno1 : H1.g b ≠ .no := fun e => hno (c.evo.no b h3 e)
      rw [c.agr b hD1]
      rcases a.fresh b h1 h3 hno1 with h4 | ⟨b0, hb0, hg0, hn0, hk0⟩
      · exact .inl h4
      · exact .inr ⟨b0, hb0, hg0, c.evo.no b0 (Nat.lt_of_lt_of_le (hlt b0 hb0) e1) hn0, hk0⟩
    · rcases c.fresh b h3 h2 hno with h4 | ⟨b0, hb0, hg0, hn0, hk0⟩
      · exact .inl (Nat.le_trans a.fr.size h4)
      · rcases hb0 with hb0 | ⟨h5, h6⟩
        · rw [a.agr b0 hb0] at hk0
          exact .inr ⟨b0, hb0, a.evo.back (hlt b0 hb0) hg0, hn0, hk0⟩
        · rcases a.fresh b0 h5 h6 (fun e => by rw [e] at hg0; simp [Blk.own] at hg0) with h7 | ⟨b1, hb1, hg1, hn1, hk1⟩
          · exact .inl (by omega)
          · exact .inr ⟨b1, hb1, hg1, c.evo.no b1 (Nat.lt_of_lt_of_le (hlt b1 hb1) e1) hn1, hk1.trans hk0⟩

end Go.AX
