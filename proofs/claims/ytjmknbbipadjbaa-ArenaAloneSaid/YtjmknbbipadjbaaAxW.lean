/- AX, part W: heaps told as terms; slices of what has so many cells. -/
import Derived.Test.YtjmknbbipadjbaaAxV
set_option linter.unusedSimpArgs false
set_option linter.unusedVariables false
namespace Go.AX
open Go

/-! ### A heap, and what a call has put behind it -/
def AH.ex (H : AH) (n : Nat) (g : Nat → Blk) : AH := ⟨n, fun b => if b < H.nx then H.g b else g b⟩
section
variable {H H1 H' : AH} {n b x : Nat} {g : Nat → Blk} {l m : List AV}
theorem ex_nx : (H.ex n g).nx = n := rfl
theorem ex_old (h : b < H.nx) : (H.ex n g).g b = H.g b := by simp only [AH.ex]; rw [if_pos h]
theorem ex_new (h : H.nx ≤ b) : (H.ex n g).g b = g b := by simp only [AH.ex]; rw [if_neg (by omega)]
theorem no_nx : (H.no b).nx = H.nx := rfl
theorem no_other (h : x ≠ b) : (H.no b).g x = H.g x := by simp [AH.no, h]
theorem al_g (h : b = H.nx) : (H.al l).g b = .rw l := by subst h; exact al_new
theorem Ext.al' (h : Ext H H1) : Ext H (H1.al l) := h.trans (Ext.al _ _)
theorem Ext.ex' (h : Ext H H1) (hn : H1.nx ≤ n) : Ext H (H1.ex n g) := h.trans ⟨hn, fun b hb => ex_old hb⟩
theorem Ext.up' (h : Ext H H1) (hb : H.nx ≤ b) : Ext H (H1.up b l) := h.up hb l
theorem Ext.no' (h : Ext H H1) (hb : H.nx ≤ b) : Ext H (H1.no b) := ⟨h.nx, fun x hx => by rw [no_other (by omega)]; exact h.g x hx⟩
theorem Ext.eq (h : Ext H H') : H' = H.ex H'.nx H'.g := by
  cases H' with
  | mk n' g' =>
    simp only [AH.ex, AH.mk.injEq, true_and]
    funext b
    split
    · rename_i hb; exact h.g b hb
    · rfl
/-- A heap where one block has been written, and more has been put behind. -/
theorem ex_of_up (hn : H.nx ≤ H'.nx) (hg : ∀ x, x < H.nx → x ≠ b → H'.g x = H.g x) (hb : b < H.nx) (hl : H'.g b = .rw l) : H' = (H.up b l).ex H'.nx H'.g := by
  cases H' with
  | mk n' g' =>
    simp only [AH.ex, AH.mk.injEq, true_and]
    funext x
    split
    · rename_i hx
      simp only [AH.up] at hx ⊢
      split
      · rename_i he; rw [he]; exact hl
      · rename_i he; exact hg x hx he
    · rfl
theorem up_ex (h : b < H.nx) : (H.ex n g).up b l = (H.up b l).ex n g := by
  simp only [AH.up, AH.ex, AH.mk.injEq, true_and]
  funext x
  by_cases hx : x = b
  · subst hx; simp [h]
  · simp [hx]
theorem up_al (h : b < H.nx) : (H.al m).up b l = (H.up b l).al m := by
  simp only [AH.up, AH.al, AH.mk.injEq, true_and]
  funext x
  by_cases hx : x = b
  · subst hx
    simp; intro h'; omega
  · simp [hx]
theorem up_idem : (H.up b l).up b m = H.up b m := by
  simp only [AH.up, AH.mk.injEq, true_and]
  funext x
  by_cases h : x = b <;> simp [h]
theorem al_up' (h : b = H.nx) : (H.al l).up b m = H.al m := by
  subst h
  simp only [AH.up, AH.al, AH.mk.injEq, true_and]
  funext x
  by_cases h : x = H.nx <;> simp [h]
theorem wr_rw' {l : List AV} {o : Nat} (hg : H.g b = .rw l) (h : o + m.length ≤ l.length) : H.wr b o m = some (H.up b (splice l o m)) := by
  simp only [AH.wr, hg, if_pos h]
theorem splice0 {l m : List AV} (h : m.length = l.length) : splice l 0 m = m := by
  unfold splice
  rw [List.take_zero, List.drop_of_length_le (by omega)]
  simp
theorem cells_rw {l : List AV} : (Blk.rw l).cells = l := rfl
theorem cells_ro {l : List AV} : (Blk.ro l).cells = l := rfl
/-- The youngest block, written whole; loaded whole. -/
theorem wr_alg {l m : List AV} {b : Nat} (hb : b = H.nx) (h : m.length = l.length) : (H.al l).wr b 0 m = some (H.al m) := by
  subst hb
  rw [wr_rw' al_new (by omega), splice0 h, al_up' rfl]
theorem rd_alg {l : List AV} {b n : Nat} (hb : b = H.nx) (h : l.length = n) : (H.al l).rd b 0 n = some l := by
  subst hb
  simp [AH.rd, al_new, Blk.cells, ← h]
theorem splice1 {l : List AV} {n : Nat} {v : AV} (h : n < l.length) : splice l n [v] = l.set n v := by
  rw [List.set_eq_take_append_cons_drop, if_pos h]; rfl
end

section
variable {P : Program} {R : Fin} {k : List It} {E : Env} {H : AH} {ds : List ADef} {f : FuncId} {args : List AV} {d : Option Nat} {l : List ROper} {rk : List ROper} {L : List DOp}
/-- A call that yields what is told of, and puts more behind the heap. -/
def Gives (P : Program) (f : FuncId) (args : List AV) (H : AH) (Q : AV → AH → Prop) : Prop := Call P f args H fun r H' => ∃ v, r = .ret v ∧ Q v H' ∧ Ext H H'
theorem Gives.mono {Q Q' : AV → AH → Prop} (h : Gives P f args H Q) (hq : ∀ v H', Ext H H' → Q v H' → Q' v H') : Gives P f args H Q' :=
  Call.mono h fun r H' ⟨v, h1, h2, h3⟩ => ⟨v, h1, hq v H' h3 h2, h3⟩
theorem AtC_gives {Q : AV → AH → Prop} (hc : Gives P f args H Q) (h : ∀ v n g, H.nx ≤ n → Q v (H.ex n g) → X P R (.o l :: k) (E.put d v) (H.ex n g) ds) : AtC P R f args d l k E H ds := by
  obtain ⟨r, H', h1, v, rfl, h2, h3⟩ := hc
  refine ⟨_, H', h1, ?_⟩
  have := h v H'.nx H'.g h3.nx (by rw [← h3.eq]; exact h2)
  rw [← h3.eq] at this
  exact this
theorem DtC_gives {Q : AV → AH → Prop} (hc : Gives P f args H Q) (h : ∀ v n g, H.nx ≤ n → Q v (H.ex n g) → Rechks rk (E.put d v) H (H.ex n g) ∧ XD P R L k (E.put d v) (H.ex n g) ds) : DtC P R f args d rk L k E H ds := by
  obtain ⟨r, H', h1, v, rfl, h2, h3⟩ := hc
  refine ⟨v, H', h1, ?_⟩
  have := h v H'.nx H'.g h3.nx (by rw [← h3.eq]; exact h2)
  rw [← h3.eq] at this
  exact this
theorem Gives.val {v : AV} (h : Call P f args H fun r H' => r = .ret v ∧ Ext H H') : Gives P f args H fun u _ => u = v :=
  Call.mono h fun r H' ⟨h1, h2⟩ => ⟨v, h1, rfl, h2⟩
theorem Gives.same {v : AV} (h : Call P f args H fun r H' => r = .ret v ∧ H' = H) : Gives P f args H fun u _ => u = v :=
  Call.mono h fun r H' ⟨h1, h2⟩ => ⟨v, h1, rfl, by rw [h2]; exact Ext.refl H⟩
theorem gives_of_X {rf : RFun} {Q : AV → AH → Prop} (hf : resF P f = some rf) (hn : args.length ≤ rf.nt)
    (h : X P (FinV rf.rs fun r H' => ∃ v, r = .ret v ∧ Q v H' ∧ Ext H H') [.c rf.body] (env args) H []) : Gives P f args H Q := call_of_X hf hn h
end

/-- So many cells of a list. -/
def rdl (l : List AV) (o n : Nat) : Option (List AV) := if o + n ≤ l.length then some ((l.drop o).take n) else none
theorem rd_c {H : AH} {b o n : Nat} : H.rd b o n = rdl (H.g b).cells o n := rfl
theorem rdl_cons {a : AV} {l : List AV} {o n : Nat} : rdl (a :: l) o n = if o + n ≤ l.length + 1 then some (((a :: l).drop o).take n) else none := rfl
theorem vfill_nil {E : Env} {cs : List AV} : vfill E cs [] = some cs := rfl
theorem vfill_cons {E : Env} {cs : List AV} {o n : Nat} {x : Opd} {r : List Part} : vfill E cs (⟨o, n, x⟩ :: r) = (ev E x).cl.bind fun m => if m.length = n ∧ o + n ≤ cs.length then vfill E (splice cs o m) r else none := rfl

/-! ### Slices -/
/-- A slice of n elements of es cells each, and all its cells. -/
inductive Sl (H : AH) (es : Nat) : AV → Nat → List AV → Prop where
  | sn : Sl H es .sn 0 []
  | sl {b o n c : Nat} {l : List AV} : b < H.nx → (∀ i v, l[i]? = some v → (H.g b).cells[o + i]? = some v) → o + l.length ≤ (H.g b).cells.length → l.length = n * es → n ≤ c → Sl H es (.sl b o n c) n l
  | sg {b o q n : Nat} {l : List AV} : b < H.nx → (∀ i v, l[i]? = some v → (H.g b).cells[o + i]? = some v) → o + l.length ≤ (H.g b).cells.length → (H.g b).isRw = true → l.length = n * es → 0 < es → Sl H es (.sg b o q n es) n l
section
variable {H H' : AH} {es n : Nat} {v : AV} {l : List AV}
theorem Sl.ext (h : Sl H es v n l) (e : Ext H H') : Sl H' es v n l := by
  cases h with
  | sn => exact .sn
  | sl h1 h2 h3 h4 h5 => exact .sl (Nat.lt_of_lt_of_le h1 e.nx) (by rw [e.g _ h1]; exact h2) (by rw [e.g _ h1]; exact h3) h4 h5
  | sg h1 h2 h3 h4 h5 h6 => exact .sg (Nat.lt_of_lt_of_le h1 e.nx) (by rw [e.g _ h1]; exact h2) (by rw [e.g _ h1]; exact h3) (by rw [e.g _ h1]; exact h4) h5 h6
theorem Sl.cells (h : Sl H es v n l) : l.length = n * es := by
  cases h with
  | sn => simp
  | sl _ _ _ h _ => exact h
  | sg _ _ _ _ h _ => exact h
theorem Sl.cl (h : Sl H es v n l) : v.cl = some [v] := by cases h <;> rfl
theorem Sl.len (h : Sl H es v n l) (H' : AH) : vlen 1 H' v = some (.it .i64 n) := by cases h <;> rfl
theorem rd_at {b o k : Nat} {l : List AV} (h2 : ∀ i v, l[i]? = some v → (H.g b).cells[o + i]? = some v) (h3 : o + l.length ≤ (H.g b).cells.length) (hk : l.length = k) : H.rd b o k = some l := by
  unfold AH.rd
  rw [← hk, if_pos h3]
  congr 1
  apply List.ext_getElem?
  intro i
  rw [List.getElem?_take, List.getElem?_drop]
  by_cases hi : i < l.length
  · rw [if_pos hi, List.getElem?_eq_getElem hi]
    exact h2 i _ (List.getElem?_eq_getElem hi)
  · rw [if_neg hi, List.getElem?_eq_none (by omega)]
theorem Sl.sc (h : Sl H es v n l) : H.sc es v = some (n, l) := by
  cases h with
  | sn => rfl
  | sl h1 h2 h3 h4 h5 => simp only [AH.sc, rd_at h2 h3 h4, Option.map_some]
  | sg h1 h2 h3 h4 h5 h6 => simp only [AH.sc, h4, rd_at h2 h3 h5, Option.map_some, h6, and_self, if_true]
/-- An element, in whatever the heap goes on to. -/
theorem Sl.at_ (h : Sl H es v n l) {i : Nat} (hi : i < n) : ∃ b q, ∀ H', Ext H H' → (∀ k, via es H' v (.it k (i : Int)) = some (.pt b q)) ∧ H'.rd b q es = some ((l.drop (i * es)).take es) ∧ ∀ t x, t < es → l[i * es + t]? = some x → (H'.g b).cells[q + t]? = some x := by
  have hc := h.cells
  have hle : i * es + es ≤ n * es := by
    have := Nat.mul_le_mul_right es (show i + 1 ≤ n by omega)
    rw [Nat.add_mul] at this; omega
  have key : ∀ (b o : Nat) (H' : AH), Ext H H' → b < H.nx → (∀ i v, l[i]? = some v → (H.g b).cells[o + i]? = some v) → o + l.length ≤ (H.g b).cells.length →
      H'.rd b (o + i * es) es = some ((l.drop (i * es)).take es) ∧ ∀ t x, t < es → l[i * es + t]? = some x → (H'.g b).cells[o + i * es + t]? = some x := by
    intro b o H' e h1 h2 h3
    refine ⟨rd_at (fun t x hx => ?_) ?_ (by simp; omega), fun t x _ hx => ?_⟩
    · rw [List.getElem?_take] at hx
      split at hx
      · rw [List.getElem?_drop] at hx
        rw [e.g _ h1, Nat.add_assoc]; exact h2 _ x hx
      · cases hx
    · rw [e.g _ h1]; simp; omega
    · rw [e.g _ h1, Nat.add_assoc]; exact h2 _ x hx
  cases h with
  | sn => omega
  | @sl b o _ c _ h1 h2 h3 h4 h5 =>
    exact ⟨b, o + i * es, fun H' e => ⟨fun k => by simp only [via]; rw [if_pos ⟨by omega, by omega⟩]; simp, key b o H' e h1 h2 h3⟩⟩
  | @sg b o q _ _ h1 h2 h3 h4 h5 h6 =>
    exact ⟨b, o + i * es, fun H' e => ⟨fun k => by simp only [via]; rw [if_pos ⟨trivial, h6, by rw [e.g _ h1]; omega, by rw [e.g _ h1]; exact h4, by omega, by omega⟩]; simp, key b o H' e h1 h2 h3⟩⟩
end

/-! ### Slices of things that are told in cells -/
def SlE {α : Type} (H : AH) (es : Nat) (enc : α → List AV) (v : AV) (ys : List α) : Prop := Sl H es v ys.length (ys.flatMap enc) ∧ ∀ y ∈ ys, (enc y).length = es
section
variable {α : Type} {H H' : AH} {es : Nat} {enc : α → List AV} {v : AV} {ys : List α}
theorem flat_len : ∀ {ys : List α}, (∀ y ∈ ys, (enc y).length = es) → (ys.flatMap enc).length = ys.length * es
  | [], _ => by simp
  | y :: r, h => by
    simp only [List.flatMap_cons, List.length_append, List.length_cons]
    rw [flat_len (ys := r) (fun z hz => h z (by simp [hz])), h y (by simp), Nat.add_mul]; omega
theorem flat_drop : ∀ {ys : List α} {i : Nat}, (∀ y ∈ ys, (enc y).length = es) → (ys.flatMap enc).drop (i * es) = (ys.drop i).flatMap enc
  | [], i, _ => by simp
  | y :: r, 0, _ => by simp
  | y :: r, i + 1, h => by
    simp only [List.flatMap_cons, List.drop_succ_cons]
    rw [← flat_drop (ys := r) (fun z hz => h z (by simp [hz])), Nat.add_mul, Nat.add_comm, ← List.drop_drop, Nat.one_mul]
    rw [List.drop_left' (h y (by simp))]
theorem flat_take : ∀ {ys : List α} {i : Nat}, (∀ y ∈ ys, (enc y).length = es) → (ys.flatMap enc).take (i * es) = (ys.take i).flatMap enc
  | [], i, _ => by simp
  | y :: r, 0, _ => by simp
  | y :: r, i + 1, h => by
    simp only [List.flatMap_cons, List.take_succ_cons]
    rw [← flat_take (ys := r) (fun z hz => h z (by simp [hz])), Nat.add_mul, Nat.add_comm, Nat.one_mul]
    have hy := h y (by simp)
    rw [List.take_append, List.take_of_length_le (by omega), hy, Nat.add_sub_cancel_left]
theorem flat_elt {i : Nat} (h : ∀ y ∈ ys, (enc y).length = es) (hi : i < ys.length) : ((ys.flatMap enc).drop (i * es)).take es = enc ys[i] := by
  rw [flat_drop h, List.drop_eq_getElem_cons hi, List.flatMap_cons, List.take_left' (h _ (List.getElem_mem hi))]
end

section
variable {α : Type} {H H' : AH} {es : Nat} {enc : α → List AV} {v : AV} {ys : List α}
theorem SlE.ext (h : SlE H es enc v ys) (e : Ext H H') : SlE H' es enc v ys := ⟨h.1.ext e, h.2⟩
theorem SlE.len (h : SlE H es enc v ys) (H' : AH) : vlen 1 H' v = some (.it .i64 ys.length) := h.1.len H'
theorem SlE.sc (h : SlE H es enc v ys) : H.sc es v = some (ys.length, ys.flatMap enc) := h.1.sc
/-- An element: its place, what is loaded there, its parts. -/
theorem SlE.at_ (h : SlE H es enc v ys) {i : Nat} (hi : i < ys.length) : ∃ b q, ∀ H', Ext H H' → (∀ k, via es H' v (.it k (i : Int)) = some (.pt b q)) ∧ H'.rd b q es = some (enc ys[i]) ∧ ∀ t x, (enc ys[i])[t]? = some x → (H'.g b).cells[q + t]? = some x := by
  obtain ⟨b, q, hp⟩ := h.1.at_ hi
  refine ⟨b, q, fun H' e => ?_⟩
  obtain ⟨h1, h2, h3⟩ := hp H' e
  refine ⟨h1, by rw [h2, flat_elt h.2 hi], fun t x hx => ?_⟩
  have ht := (List.getElem?_eq_some_iff.1 hx).1
  rw [h.2 _ (List.getElem_mem hi)] at ht
  refine h3 t x ht ?_
  rw [← flat_elt h.2 hi, List.getElem?_take, if_pos ht, List.getElem?_drop] at hx
  exact hx
/-- Numbers, one cell each. -/
def encI (k : IntKind) (n : Int) : List AV := [.it k n]
theorem flatI {k : IntKind} : ∀ (l : List Int), l.flatMap (encI k) = l.map (AV.it k)
  | [] => rfl
  | n :: r => by simp only [List.flatMap_cons, List.map_cons, encI, flatI r]; rfl
end

end Go.AX
