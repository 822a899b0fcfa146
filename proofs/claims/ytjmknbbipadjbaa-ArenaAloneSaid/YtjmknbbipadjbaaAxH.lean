/- AX, part H: append, copy; and every operation. -/
import Derived.Test.YtjmknbbipadjbaaAxG
set_option linter.unusedSimpArgs false
set_option linter.unusedVariables false
namespace Go.AX
open Go

section
variable {P : Program} {base nt : Nat} {D : Nat → Prop} {j : Inj} {H H' : AH} {w : World} {a : Act} {o : Oper} {v : AV} {E : Env}

theorem rd_take {b p n k : Nat} {l : List AV} (h : H.rd b p n = some l) (hk : k ≤ n) : H.rd b p k = some (l.take k) := by
  unfold AH.rd at h ⊢
  split at h
  · simp only [Option.some.injEq] at h; subst h
    rw [if_pos (by omega), List.take_take, Nat.min_eq_left hk]
  · cases h
/-- What a slice holds. -/
theorem src_run (S : Sim base D j H w) {es n : Nat} {x : AV} {m : List AV} (hx : x.ok D) (h : H.sc es x = some (n, m)) :
    (∀ w2, (Builtin.lenOf (x.con j)).run P w2 = .ok n w2) ∧ (∀ k w2, k ≤ n → w2.heap = w.heap → (Builtin.firstCells es k (x.con j)).run P w2 = .ok (AV.conL j (m.take (k * es))).toArray w2) ∧ AV.okL D m ∧ AV.scL m = true ∧ m.length = n * es := by
  unfold AH.sc at h
  split at h
  · simp only [Option.some.injEq, Prod.mk.injEq] at h
    obtain ⟨rfl, rfl⟩ := h
    exact ⟨fun w2 => by simp [AV.con, Builtin.lenOf], fun k w2 _ _ => by simp [AV.con, Builtin.firstCells, AV.conL], by simp only [AV.okL], rfl, by simp⟩
  · rename_i b p n' c
    obtain ⟨l, hl, h⟩ := Option.map_eq_some_iff.1 h
    simp only [Prod.mk.injEq] at h
    obtain ⟨rfl, rfl⟩ := h
    obtain ⟨_, r2, r3, r4⟩ := S.loadCells (P := P) hx hl
    refine ⟨fun w2 => by simp [AV.con, Builtin.lenOf], fun k w2 hk hw => ?_, r2, r3, r4⟩
    have := ((S.world hw).loadCells (P := P) hx (rd_take hl (Nat.mul_le_mul_right es hk))).1
    simpa [AV.con, Builtin.firstCells] using this
  · rename_i b p q n' es'
    split at h
    · rename_i hc
      obtain ⟨rfl, hes, hown⟩ := hc
      obtain ⟨l, hl, h⟩ := Option.map_eq_some_iff.1 h
      simp only [Prod.mk.injEq] at h
      obtain ⟨rfl, rfl⟩ := h
      obtain ⟨_, r2, r3, r4⟩ := S.loadCells (P := P) hx hl
      have hfit : p + n' * es' ≤ (H.g b).cells.length := by
        unfold AH.rd at hl; split at hl
        · assumption
        · cases hl
      obtain ⟨hcap, hne⟩ := room S hx hes (isRw_own hown) hfit
      refine ⟨fun w2 => by simp only [AV.con, Builtin.lenOf, Sem.run_pure], fun k w2 hk hw => ?_, r2, r3, r4⟩
      have hr := ((S.world hw).loadCells (P := P) hx (rd_take hl (Nat.mul_le_mul_right es' hk))).1
      rw [S.own_at hx hown] at hr
      simp only [AV.con, Builtin.firstCells]
      rcases Nat.eq_zero_or_pos k with h0 | h0
      · subst h0
        simp [loadCells, loadCellsFrom, AV.conL]
      · rw [if_neg (hne (by omega))]
        exact hr
    · cases h
  · cases h

/-! ### append, of values -/
theorem app_in {t u ty e : TypeId} {i : TypeInfo} (ht : P.underlying t = some (.slice e)) (hu : ∃ e', P.underlying u = some (.slice e')) (hi : P.info? e = some i) {ad : Addr} {k c n : Nat} {x : Value} {m : Array Value} {w' : World}
    (h1 : (Builtin.lenOf x).run P w = .ok n w) (h2 : (Builtin.firstCells i.size n x).run P w = .ok m w) (hroom : k + n ≤ c) (h3 : (storeCells (ad.add (k * i.size)) m.toList).run P w = .ok () w') :
    (Builtin.append_ #[t, u] ty #[.slice (some ad) k c, x]).run P w = .ok (.slice (some ad) (k + n) c) w' := by
  obtain ⟨e', hu⟩ := hu
  simp [Builtin.append_, run_underlying ht, run_underlying hu, sizeOf, typeInfo, hi, h1, hroom, h2, h3]
theorem app_nil {t u ty e : TypeId} {i : TypeInfo} (ht : P.underlying t = some (.slice e)) (hu : ∃ e', P.underlying u = some (.slice e')) (hi : P.info? e = some i) {x : Value} {m : Array Value}
    (h1 : (Builtin.lenOf x).run P w = .ok 0 w) (h2 : (Builtin.firstCells i.size 0 x).run P w = .ok m w) :
    (Builtin.append_ #[t, u] ty #[.slice none 0 0, x]).run P w = .ok (.slice none 0 0) w := by
  obtain ⟨e', hu⟩ := hu
  simp [Builtin.append_, run_underlying ht, run_underlying hu, sizeOf, typeInfo, hi, h1, h2]
theorem app_grow {t u ty e : TypeId} {i : TypeInfo} {z : Value} (ht : P.underlying t = some (.slice e)) (hu : ∃ e', P.underlying u = some (.slice e')) (hi : P.info? e = some i) (hz : i.zero = some z) {ad : Option Addr} {k c n : Nat} {x : Value} {m l : Array Value}
    (h1 : (Builtin.lenOf x).run P w = .ok n w) (hroom : c < k + n) (h2 : (Builtin.firstCells i.size n x).run P w.drew = .ok m w.drew) (h3 : (Builtin.firstCells i.size k (.slice ad k c)).run P w.drew = .ok l w.drew)
    (h63 : ((k + n : Nat) : Int) ≤ 9223372036854775807) (hfit : (k + n) * i.bytes ≤ 140737488355328) :
    (Builtin.append_ #[t, u] ty #[.slice ad k c, x]).run P w = .ok (.slice (some ⟨w.heap.size, 0, none⟩) (k + n) (grownCap w (k + n) c e)) (w.drew.alloc (.cells (l ++ m ++ Builtin.zeroCells z.cells (grownCap w (k + n) c e - (k + n))) e)) := by
  obtain ⟨e', hu⟩ := hu
  have hf := growslice_fits hroom hfit
  have n1 : ¬ (k + n ≤ c) := by omega
  have n2 : ¬ (9223372036854775807 < (k : Int) + (n : Int)) := by omega
  have n3 : ¬ (281474976710656 < Builtin.nextslicecap (k + n) c * i.bytes) := by omega
  have hmax : (IntKind.i64.max : Int) = 9223372036854775807 := by decide
  simp [Builtin.append_, run_underlying ht, run_underlying hu, sizeOf, typeInfo, hi, h1, n1, n2, n3, hmax, Question.forced, h2, h3, zeroValue, hz, newRow, grownCap]

/-! ### Blocks that end, blocks that are taken over -/
theorem Sim.noB (S : Sim base D j H w) {b : Nat} (hb : D b) (hown : (H.g b).own = true) : Post base D j H w (H.no b) w j := by
  have back : ∀ x, (H.no b).g x ≠ .no → (H.no b).g x = H.g x ∧ x ≠ b := by
    intro x hx
    simp only [AH.no] at hx ⊢
    split at hx
    · exact absurd rfl hx
    · rename_i hne; exact ⟨by rw [if_neg hne], hne⟩
  refine ⟨⟨Nat.le_refl _, ?_, ?_, ?_⟩, fun _ _ => rfl, Sim.iffD (D := D) ⟨S.lt, fun x hx => by simp only [AH.no] at hx ⊢; split; rfl; exact S.wf x hx, S.size, ?_, ?_, ?_, ?_⟩ (fun x => Dnew.self), Fr.refl .., fun x h1 h2 _ => by simp only [AH.no] at h2; omega⟩
  · intro x hx h; simp only [AH.no]; split <;> simp [h]
  · intro x l hx h
    simp only [AH.no]
    rw [if_neg (fun e => by subst e; rw [h] at hown; simp [Blk.own] at hown)]; exact h
  · intro x hx h; simp only [AH.no]; split
    · exact .inl rfl
    · exact .inr h
  · intro x l hx h
    rw [(back x (by rw [h]; simp)).1] at h
    exact S.ro x l hx h
  · intro x l hx h
    rw [(back x (by rw [h]; simp)).1] at h
    exact S.rw x l hx h
  · intro x l hx h
    rw [(back x (by rw [h]; simp)).1] at h
    exact S.mp x l hx h
  · intro x x' hx hx' h h' hk
    have hx1 := (back x (fun e => by rw [e] at h; simp [Blk.own] at h)).1
    have hx2 := (back x' h').1
    rw [hx1] at h
    rw [hx2] at h'
    exact S.inj x x' hx hx' h h' hk

/-- An append in place: the block goes on under another name. -/
theorem Sim.take (S : Sim base D j H w) {b : Nat} (hb : D b) {l l' : List AV} (hg : H.g b = .rw l) (hl : AV.okL D l') (hs : AV.scL l' = true)
    {w' : World} {t : TypeId} {fr : Nat × Nat} {cs cs' : Array Value} (hw0 : w.heap[(j b).k]? = some (.cells cs t fr)) (hw : w'.heap[(j b).k]? = some (.cells cs' t fr)) (hsz : cs'.size = cs.size) (hlen : l'.length ≤ cs.size)
    (hcs : ∀ (i : Nat) v, (AV.conL j l')[i]? = some v → cs'[i]? = some v)
    (hother : ∀ k, k ≠ (j b).k → w'.heap[k]? = w.heap[k]?) (hsize : w'.heap.size = w.heap.size) (hos : w'.os = w.os) (htape : w'.tape = w.tape) (hout : w'.output = w.output) :
    Post base D j H w ((H.al l').no b) w' (j.put H.nx (j b)) := by
  have hbn : b < H.nx := S.lt b hb
  have hold : ∀ x, D x → x ≠ b → H.g x ≠ .no → (j x).k ≠ (j b).k := fun x hx hne hn e => hne (S.inj b x hb hx (by rw [hg]; rfl) hn e)
  obtain ⟨⟨cs0, t0, fr0, g1, g2, g5, g6, g7⟩, g3, g4, g8⟩ := S.rw b l hb hg
  rw [hw0] at g1
  simp only [Option.some.injEq, Obj.cells.injEq] at g1
  obtain ⟨rfl, rfl, rfl⟩ := g1
  have hD : ∀ x, Dnew D H ((H.al l').no b) x → x = H.nx ∨ (D x ∧ x < H.nx) := by
    rintro x (hx | ⟨h1, h2⟩)
    · exact .inr ⟨hx, S.lt x hx⟩
    · simp only [AH.al, AH.no] at h2; exact .inl (by omega)
  have hG : ∀ x, x < H.nx → ((H.al l').no b).g x = if x = b then .no else H.g x := by
    intro x hx; simp only [AH.al, AH.no]; split
    · rfl
    · rw [if_neg (by omega)]
  have hGn : ((H.al l').no b).g H.nx = .rw l' := by
    simp only [AH.al, AH.no]; rw [if_neg (by omega), if_pos trivial]
  have hJ : ∀ x, x < H.nx → (j.put H.nx (j b)) x = j x := fun x hx => by simp only [Inj.put]; rw [if_neg (by omega)]
  have hJn : (j.put H.nx (j b)) H.nx = j b := by simp [Inj.put]
  refine ⟨⟨by simp [AH.al, AH.no], ?_, ?_, ?_⟩, fun x hx => hJ x (S.lt x hx), ⟨?_, ?_, ?_, ?_, ?_, ?_, ?_⟩, ⟨hos, htape, hout, by omega, ?_⟩, ?_⟩
  · intro x hx h; rw [hG x hx, h]; split <;> rfl
  · intro x lx hx h
    rw [hG x hx, if_neg (fun e => by subst e; rw [hg] at h; cases h)]; exact h
  · intro x hx h
    rw [hG x hx]; split
    · exact .inl rfl
    · exact .inr h
  · intro x hx
    rcases hD x hx with rfl | ⟨_, h⟩ <;> simp only [AH.al, AH.no] <;> omega
  · intro x hx
    simp only [AH.al, AH.no] at hx ⊢
    split
    · rfl
    · rw [if_neg (by omega)]; exact S.wf x (by omega)
  · rw [hsize]; exact S.size
  · intro x lx hx h
    rcases hD x hx with rfl | ⟨hx', hlt⟩
    · rw [hGn] at h; cases h
    · rw [hG x hlt] at h
      split at h
      · cases h
      · rename_i hne
        obtain ⟨⟨cs1, t1, fr1, h1, h2⟩, h3, h4⟩ := S.ro x lx hx' h
        rw [conL_put S.lt _ h3, hJ x hlt]
        exact ⟨⟨cs1, t1, fr1, by rw [hother _ (hold x hx' hne (by rw [h]; simp))]; exact h1, h2⟩, okL_Dnew h3, h4⟩
  · intro x lx hx h
    rcases hD x hx with rfl | ⟨hx', hlt⟩
    · rw [hGn] at h
      simp only [Blk.rw.injEq] at h; subst h
      rw [conL_put S.lt _ hl, hJn]
      exact ⟨⟨cs', _, _, hw, hcs, by omega, by rw [conL_length]; omega, by rw [hsz]; exact g7⟩, okL_Dnew hl, hs, g8⟩
    · rw [hG x hlt] at h
      split at h
      · cases h
      · rename_i hne
        obtain ⟨⟨cs1, t1, fr1, h1, h2⟩, h3, h4⟩ := S.rw x lx hx' h
        rw [conL_put S.lt _ h3, hJ x hlt]
        exact ⟨⟨cs1, t1, fr1, by rw [hother _ (hold x hx' hne (by rw [h]; simp))]; exact h1, h2⟩, okL_Dnew h3, h4⟩
  · intro x lx hx h
    rcases hD x hx with rfl | ⟨hx', hlt⟩
    · rw [hGn] at h; cases h
    · rw [hG x hlt] at h
      split at h
      · cases h
      · rename_i hne
        obtain ⟨⟨en, c, h1, h2⟩, h3, h4⟩ := S.mp x lx hx' h
        rw [conM_congr (j := j) (fun y hy => hJ y (S.lt y hy)) h3, hJ x hlt]
        exact ⟨⟨en, c, by rw [hother _ (hold x hx' hne (by rw [h]; simp))]; exact h1, h2⟩, okM_mono (fun _ => .inl) h3, h4⟩
  · intro x x' hx hx' h h' hk
    rcases hD x hx with rfl | ⟨hx1, hlt⟩
    · rcases hD x' hx' with rfl | ⟨hx2, hlt'⟩
      · rfl
      · exfalso
        rw [hG x' hlt'] at h'
        split at h'
        · exact h' rfl
        · rename_i hne
          rw [hJn, hJ x' hlt'] at hk
          exact hold x' hx2 hne h' hk
    · rw [hG x hlt] at h
      split at h
      · simp [Blk.own] at h
      · rename_i hne
        rcases hD x' hx' with rfl | ⟨hx2, hlt'⟩
        · exfalso
          rw [hJn, hJ x hlt] at hk
          exact hold x hx1 hne (fun e => by rw [e] at h; simp [Blk.own] at h) hk.symm
        · rw [hG x' hlt'] at h'
          split at h'
          · exact absurd rfl h'
          · rw [hJ x hlt, hJ x' hlt'] at hk
            exact S.inj x x' hx1 hx2 h h' hk
  · intro k hk hn
    exact hother k (fun e => hn b hb (by rw [hg]; rfl) e.symm)
  · intro x h1 h2 _
    simp only [AH.al, AH.no] at h2
    obtain rfl : x = H.nx := by omega
    refine .inr ⟨b, hb, by rw [hg]; rfl, ?_, by rw [hJn]⟩
    rw [hG b hbn, if_pos rfl]

theorem okL_append {l m : List AV} (h1 : AV.okL D l) (h2 : AV.okL D m) : AV.okL D (l ++ m) := by
  rw [okL_iff] at *
  intro v hv
  rcases List.mem_append.1 hv with hv | hv
  · exact h1 v hv
  · exact h2 v hv
theorem scL_append {l m : List AV} (h1 : AV.scL l = true) (h2 : AV.scL m = true) : AV.scL (l ++ m) = true := by
  simp only [AV.scL, List.all_append, Bool.and_eq_true] at *
  exact ⟨h1, h2⟩
theorem Post.drew (S : Sim base D j H w) : Post base D j H w H w.drew j :=
  ⟨Evo.refl H, fun _ _ => rfl, (S.world (w' := w.drew) rfl).iffD fun _ => Dnew.self, ⟨rfl, rfl, rfl, Nat.le_refl _, fun _ _ _ => rfl⟩, fun b h1 h2 _ => by omega⟩

/-- A grown row: the abstract block of what it holds. -/
theorem grown_post (S : Sim base D j H w) {l : List AV} (hl : AV.okL D l) (hs : AV.scL l = true) (e : TypeId) (zs : Array Value) :
    Post base D j H w (H.al l) (w.drew.alloc (.cells ((AV.conL j l).toArray ++ zs) e)) (j.put H.nx (.new w.heap.size (l.length + zs.size))) := by
  have := S.alloc hl hs ((AV.conL j l).toArray ++ zs) e (0, 0) (w.drawn + 1) (fun i v hi => by
    rw [Array.getElem?_append_left (by
      have := (List.getElem?_eq_some_iff.1 hi).1
      simpa using this)]
    simpa using hi) (by simp [conL_length]) (.inl rfl) (w' := w.drew.alloc (.cells ((AV.conL j l).toArray ++ zs) e)) rfl
  simpa [conL_length] using this

theorem zc_size {z : Array Value} {n : Nat} : (Builtin.zeroCells z n).size = n * z.size := by simp [Builtin.zeroCells]
theorem sg_con {n es cap len : Nat} {c : CB} (hc : c.e = cap * es) (hes : 0 < es) : (AV.sg H.nx 0 0 n es).con (j.put H.nx c) = .slice (some ⟨c.k, 0, none⟩) n cap := by
  simp only [AV.con, Inj.put, if_true, Nat.sub_zero, hc, Nat.mul_div_cancel _ hes]
  split <;> rfl

theorem snd_app (R : Rel nt D j E a.tmps) (S : Sim base D j H w) {s x : Operand} {s' x' : Opd} {t u e : TypeId} {i : TypeInfo} {c : Call} (ho : o.op = .call c) (hc : c.callee = .builtin .append) (htu : c.argTypes.toList = [t, u]) (hx : c.args.toList = [s, x])
    (ht : P.underlying t = some (.slice e)) (hu : ∃ e', P.underlying u = some (.slice e')) (hi : P.info? e = some i) (hes : 0 < i.size) (hby : 0 < i.bytes) (hzl : (zerT P e).map List.length = some i.size)
    (hs' : resO nt s = some s') (hx' : resO nt x = some x') {n : Nat} {m : List AV} (hsc : H.sc i.size (ev E x') = some (n, m)) (h : vapp i.size i.bytes H (ev E s') n m = some (v, H')) : Snd P base D j H w a.eval o v H' := by
  obtain ⟨s1, s2⟩ := R.ev hs'
  obtain ⟨x1, x2⟩ := R.ev hx'
  obtain ⟨z, hz, hzlen⟩ := Option.map_eq_some_iff.1 hzl
  obtain ⟨i', zv, hi', hzv, hzc, _, _⟩ := zerT_built hz j D
  rw [hi] at hi'
  obtain rfl := Option.some.inj hi'
  obtain ⟨src1, src2, src3, src4, src5⟩ := src_run (P := P) S x2 hsc
  have srcN : ∀ w2 : World, w2.heap = w.heap → (Builtin.firstCells i.size n ((ev E x').con j)).run P w2 = .ok (AV.conL j m).toArray w2 := by
    intro w2 hw2
    have := src2 n w2 (Nat.le_refl _) hw2
    rwa [List.take_of_length_le (by omega)] at this
  have htu' : c.argTypes = #[t, u] := by apply Array.ext'; simpa using htu
  have fin : ∀ (vv : AV) HH w' j', (Builtin.append_ #[t, u] o.type #[a.eval s, a.eval x]).run P w = .ok (vv.con j') w' → vv.ok (Dnew D H HH) → Post base D j H w HH w' j' → Snd P base D j H w a.eval o vv HH := by
    intro vv HH w' j' hr hv hp
    refine ⟨_, w', j', call_run ho hc (r := .ok (.value (vv.con j')) w') ?_, .inl rfl, hv, hp⟩
    simp [builtin, args_two hx, htu', hr]
  have hzsz : zv.cells.size = i.size := by rw [hzc]; simp [conL_length, hzlen]
  -- what grows
  have grow : ∀ (vs : AV) (ad : Option Addr) (k cp : Nat) (l : List AV), vs.con j = .slice ad k cp → cp < k + n → (Builtin.firstCells i.size k (.slice ad k cp)).run P w.drew = .ok (AV.conL j l).toArray w.drew → AV.okL D l → AV.scL l = true → l.length = k * i.size →
      a.eval s = vs.con j → (k + n) * i.bytes ≤ 140737488355328 →
      ∃ w' c', Post base D j H w (H.al (l ++ m)) w' (j.put H.nx c') ∧ (Builtin.append_ #[t, u] o.type #[a.eval s, a.eval x]).run P w = .ok ((AV.sg H.nx 0 0 (k + n) i.size).con (j.put H.nx c')) w' ∧ w.heap.size ≤ c'.k := by
    intro vs ad k cp l hvs hcp hfc hl1 hl2 hl3 hse hb
    have h63 : ((k + n : Nat) : Int) ≤ 9223372036854775807 := by
      have : k + n ≤ (k + n) * i.bytes := Nat.le_mul_of_pos_right _ hby
      omega
    have hg := app_grow (P := P) (w := w) (ty := o.type) ht hu hi hzv (ad := ad) (k := k) (c := cp) (src1 w) hcp (srcN w.drew rfl) hfc h63 hb
    have hcat : (AV.conL j l).toArray ++ (AV.conL j m).toArray = (AV.conL j (l ++ m)).toArray := by simp [conL_append]
    rw [hcat] at hg
    have hp := grown_post S (okL_append hl1 src3) (scL_append hl2 src4) e (Builtin.zeroCells zv.cells (grownCap w (k + n) cp e - (k + n)))
    refine ⟨_, _, hp, ?_, Nat.le_refl _⟩
    rw [hse, hvs, x1, hg]
    have hge := grownCap_ge w (k + n) cp e
    have hcon := sg_con (j := j) (H := H) (n := k + n) (es := i.size) (cap := grownCap w (k + n) cp e) (len := 0) (c := .new w.heap.size ((l ++ m).length + (Builtin.zeroCells zv.cells (grownCap w (k + n) cp e - (k + n))).size)) (by
      simp only [List.length_append, hl3, src5, zc_size, hzsz]
      rw [← Nat.add_mul, ← Nat.add_mul]
      congr 1
      omega) hes
    rw [hcon]
  generalize hsv : ev E s' = vs at *
  unfold vapp at h
  split at h
  · -- nil
    split at h
    · rename_i h0
      simp only [Option.some.injEq, Prod.mk.injEq] at h
      obtain ⟨rfl, rfl⟩ := h
      subst h0
      refine fin .sn H w j ?_ (by simp [AV.ok]) (Post.refl S)
      rw [s1, x1]
      exact app_nil ht hu hi (src1 w) (srcN w rfl)
    · rename_i h0
      split at h
      · rename_i hb
        simp only [Option.some.injEq, Prod.mk.injEq] at h
        obtain ⟨rfl, rfl⟩ := h
        obtain ⟨w', c', hp, hr, _⟩ := grow .sn none 0 0 [] rfl (by omega) (by simp [Builtin.firstCells, AV.conL]) (by simp only [AV.okL]) rfl (by simp) s1 (by simpa using hb)
        simp only [Nat.zero_add, List.nil_append] at hp hr
        exact fin _ _ w' _ hr dnew_nx hp
      · cases h
  · -- a slice whose room is known
    rename_i b p k cp
    split at h
    · rename_i h0
      split at h
      · rename_i hk
        simp only [Option.some.injEq, Prod.mk.injEq] at h
        obtain ⟨rfl, rfl⟩ := h
        subst h0
        refine fin _ H w j ?_ (ok_Dnew s2) (Post.refl S)
        rw [s1, x1]
        have hm0 : m = [] := List.eq_nil_of_length_eq_zero (by simpa using src5)
        have hsr := srcN w rfl
        rw [hm0] at hsr
        have := app_in (P := P) (w := w) (w' := w) (ty := o.type) (ad := ((j b).at p)) (k := k) (c := cp) ht hu hi (src1 w) hsr (by omega) (by simp [AV.conL, storeCells])
        simpa [AV.con] using this
      · cases h
    · rename_i h0
      split at h
      · rename_i hroom
        obtain ⟨H1, hw, h⟩ := Option.map_eq_some_iff.1 h
        simp only [Prod.mk.injEq] at h
        obtain ⟨rfl, rfl⟩ := h
        obtain ⟨w', r, pst⟩ := S.store (P := P) s2 hw src3 src4
        refine fin _ H1 w' j ?_ (ok_Dnew s2) pst
        rw [s1, x1]
        exact app_in ht hu hi (src1 w) (srcN w rfl) hroom (by rw [at_add]; simpa using r)
      · rename_i hroom
        split at h
        · rename_i hb
          obtain ⟨l, hl, h⟩ := Option.map_eq_some_iff.1 h
          simp only [Prod.mk.injEq] at h
          obtain ⟨rfl, rfl⟩ := h
          obtain ⟨l1, l2, l3, l4⟩ := (S.world (w' := w.drew) rfl).loadCells (P := P) s2 hl
          obtain ⟨w', c', hp, hr, _⟩ := grow (.sl b p k cp) (some ((j b).at p)) k cp l rfl (by omega) (by simpa [Builtin.firstCells] using l1) l2 l3 l4 s1 hb
          exact fin _ _ w' _ hr dnew_nx hp
        · cases h
  · -- one whose room isn't known
    rename_i b p q k es'
    split at h
    · rename_i hcond
      obtain ⟨rfl, _, hfit, hrw⟩ := hcond
      have hown : (H.g b).own = true := by
        cases hg : H.g b <;> rw [hg] at hrw <;> simp [Blk.isRw, Blk.own] at hrw ⊢
      obtain ⟨hcap, hne⟩ := room S s2 hes hown hfit
      have hs1 : a.eval s = .slice (some ⟨(j b).k, if ((j b).e - p) / i.size = 0 then q else p, none⟩) k (((j b).e - p) / i.size) := by simpa only [AV.con] using s1
      split at h
      · rename_i h0
        simp only [Option.some.injEq, Prod.mk.injEq] at h
        obtain ⟨rfl, rfl⟩ := h
        subst h0
        refine fin _ H w j ?_ (ok_Dnew s2) (Post.refl S)
        rw [hs1, x1]
        have hm0 : m = [] := List.eq_nil_of_length_eq_zero (by simpa using src5)
        have hsr := srcN w rfl
        rw [hm0] at hsr
        have := app_in (P := P) (w := w) (w' := w) (ty := o.type) (ad := ⟨(j b).k, if ((j b).e - p) / i.size = 0 then q else p, none⟩) (k := k) (c := ((j b).e - p) / i.size) ht hu hi (src1 w) hsr (by omega) (by simp [AV.conL, storeCells])
        simpa only [AV.con, Nat.add_zero] using this
      · rename_i h0
        split at h
        · rename_i hin
          obtain ⟨H1, hw, h⟩ := Option.map_eq_some_iff.1 h
          simp only [Prod.mk.injEq] at h
          obtain ⟨rfl, rfl⟩ := h
          obtain ⟨w', r, pst⟩ := S.store_k (P := P) s2 hw src3 src4
          obtain ⟨hcap2, hne2⟩ := room S s2 hes hown hin
          have hz := hne2 (by omega)
          refine fin _ H1 w' j ?_ (ok_Dnew s2) pst
          rw [hs1, x1, if_neg hz]
          have := app_in (P := P) (w := w) (w' := w') (ty := o.type) (ad := ⟨(j b).k, p, none⟩) (k := k) (c := ((j b).e - p) / i.size) ht hu hi (src1 w) (srcN w rfl) hcap2 (by rw [addr_add]; simpa using r)
          rw [this]
          simp only [AV.con, if_neg hz]
        · rename_i hin
          split at h
          · rename_i hc2
            obtain ⟨rfl, rfl, hb⟩ := hc2
            obtain ⟨l, hl, h⟩ := Option.map_eq_some_iff.1 h
            simp only [Prod.mk.injEq] at h
            obtain ⟨rfl, rfl⟩ := h
            have hs1' : a.eval s = .slice (some ⟨(j b).k, 0, none⟩) k ((j b).e / i.size) := by
              rw [hs1]; simp
            by_cases hroom : k + n ≤ (j b).e / i.size
            · -- in place
              cases hg : H.g b with
              | no => rw [hg] at hown; simp [Blk.own] at hown
              | ro l => rw [hg] at hown; simp [Blk.own] at hown
              | mp es => rw [hg] at hrw; simp [Blk.isRw] at hrw
              | rw l0 =>
                obtain ⟨⟨cs, t', fr, g1, g2, g5, g6, g7⟩, g3, g4, g8⟩ := S.rw b l0 s2 hg
                have hle : (k + n) * i.size ≤ (j b).e := by
                  have := Nat.mul_le_mul_right i.size hroom
                  have := Nat.div_mul_le_self (j b).e i.size
                  omega
                have hlen : ∀ q, q < (AV.conL j m).length → k * i.size + q < cs.size := fun q hq => by rw [conL_length, src5] at hq; rw [Nat.add_mul] at hle; omega
                unfold AH.rd at hl
                rw [hg] at hl
                simp only [Blk.cells, Nat.zero_add, List.drop_zero] at hl
                split at hl
                · rename_i hk
                  simp only [Option.some.injEq] at hl; subst hl
                  have hst := run_storeCells_cells (P := P) (j b).k (k * i.size) (AV.conL j m) 0 w (fun q hq => by have := hlen q hq; simp [World.cell?, g1, this]) (fun q hq => by have := hlen q hq; simp [World.frozen?, g1]; intro; omega) (conL_one src4)
                  simp only [Nat.add_zero] at hst
                  have hr := setCells_rest (j b).k (AV.conL j m) (k * i.size) w
                  have hpost := Sim.take S s2 hg (l' := l0.take (k * i.size) ++ m) (w' := w.setCells (j b).k (k * i.size) (AV.conL j m))
                    (okL_append (okL_iff.2 fun v hv => okL_iff.1 g3 v (List.mem_of_mem_take hv)) src3)
                    (scL_append (List.all_eq_true.2 fun v hv => List.all_eq_true.1 g4 v (List.mem_of_mem_take hv)) src4)
                    g1 (setCells_heap (j b).k t' fr (AV.conL j m) (k * i.size) w cs g1) (writeAll_size _ _ _)
                    (by simp only [List.length_append, List.length_take, src5]; rw [Nat.add_mul] at hle; omega)
                    (by
                      intro y vv hy
                      rw [writeAll_get _ _ _ _ (by rw [conL_length, src5, ← Nat.add_mul]; omega)]
                      rw [conL_get] at hy
                      obtain ⟨av, hav, rfl⟩ := Option.map_eq_some_iff.1 hy
                      have hmin : min (k * i.size) l0.length = k * i.size := by omega
                      by_cases h1 : y < k * i.size
                      · rw [if_neg (by omega)]
                        rw [List.getElem?_append_left (by simp; omega), List.getElem?_take_of_lt h1] at hav
                        exact g2 y _ (by rw [conL_get, hav]; rfl)
                      · rw [List.getElem?_append_right (by simp; omega)] at hav
                        simp only [List.length_take, hmin] at hav
                        have hlt := (List.getElem?_eq_some_iff.1 hav).1
                        rw [if_pos (by rw [conL_length]; omega), conL_get, hav]; rfl)
                    (fun y hy => setCells_heap_other _ y hy _ _ _) (setCells_size _ _ _ _) hr.1 hr.2.1 hr.2.2
                  refine fin _ _ _ _ ?_ (.inr ⟨Nat.le_refl _, by simp [AH.al, AH.no]⟩) hpost
                  rw [hs1', x1]
                  have := app_in (P := P) (w := w) (w' := w.setCells (j b).k (k * i.size) (AV.conL j m)) (ty := o.type) (ad := ⟨(j b).k, 0, none⟩) (k := k) (c := (j b).e / i.size) ht hu hi (src1 w) (srcN w rfl) hroom (by rw [addr_add]; simpa using hst)
                  rw [this]
                  simp [AV.con, Inj.put]
                · cases hl
            · -- a new row
              obtain ⟨l1, l2, l3, l4⟩ := (S.world (w' := w.drew) rfl).loadCells (P := P) s2 hl
              rw [S.own_at s2 hrw] at l1
              obtain ⟨w', c', hp, hr, _⟩ := grow (.sg b 0 0 k i.size) (some ⟨(j b).k, 0, none⟩) k ((j b).e / i.size) l (by rw [← s1, hs1']) (by omega) (by simpa [Builtin.firstCells] using l1) l2 l3 l4 s1 hb
              have hb' : Dnew D H (H.al (l ++ m)) b := .inl s2
              have hlt := S.lt b s2
              have hown' : ((H.al (l ++ m)).g b).own = true := by simp only [AH.al]; rw [if_neg (by omega)]; exact hown
              have hp2 := hp.trans (Sim.noB hp.sim hb' hown') S.lt
              exact fin _ _ w' _ hr (.inr ⟨Nat.le_refl _, by simp [AH.al, AH.no]⟩) hp2
          · cases h
    · cases h
  · cases h
end

end Go.AX
