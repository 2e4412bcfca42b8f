/- Operations that make or write memory: the model does what the condition says. No condition of its own. -/
import Derived.Test.YtjeoelajkncpcaaDoorV13
namespace Go.Proofs.YtjeoelajkncpcaaDoor.V
open Go Go.RowKit
set_option linter.unusedVariables false
set_option linter.unusedSimpArgs false

section
variable {c : Cfg} {m0 : Mem} {w0 : World} {fx : Fx} {m : Mem} {bk : List Cn} {st : St} {a : Act} {w : World}

theorem alloc_sound (S : Sat c m0 w0 fx m bk st a w) {t : TypeId} {s : Shape} (hz : c.zeroOK t s = true) {K : EV → List Ent → Prop} (k : K (.box st.hp.length 0) (st.hp ++ [.box .own s.zeroC])) :
    ∃ u w', (Instr.alloc t true (.tuple #[])).run c.P w = .ok u w' ∧ ResK c m0 w0 fx st a w K u w' := by
  obtain ⟨z, z1, z2, _⟩ := zeroOK_sound (m := m) (J st.hp bk) hz
  refine ⟨_, _, ?_, new_box S t z.cells _ z2 k⟩
  simp [Instr.alloc, run_zeroValue z1 w, newVar, newRow]

theorem box_sound (S : Sat c m0 w0 fx m bk st a w) {t : TypeId} {v : EV} {u : Value} (hu : Rep c.P m v (J st.hp bk) u) (h1 : oneV st v = true) {K : EV → List Ent → Prop} (k : K (.box st.hp.length 0) (st.hp ++ [.box .own v.cells])) :
    ∃ u' w', (Instr.box t u).run c.P w = .ok u' w' ∧ ResK c m0 w0 fx st a w K u' w' := by
  refine ⟨_, _, ?_, new_box S t u.cells _ (cells_sound S hu h1).1 k⟩
  simp [Instr.box, newVar, newRow]

theorem all_one (S : Sat c m0 w0 fx m bk st a w) : ∀ {cs : List EV} {us : List Value}, RepL c.P m cs (J st.hp bk) us → cs.all (cellV st) = true → ∀ u ∈ us, u.oneCell' = true
  | [], us, h, _, u, hu => by rw [RepL_nil.1 h] at hu; cases hu
  | v :: r, us, h, k, u, hu => by
    obtain ⟨q, us', rfl, h1, h2⟩ := RepL_cons.1 h
    simp only [List.all_cons, Bool.and_eq_true] at k
    rcases List.mem_cons.1 hu with e | e
    · subst e
      refine (cells_sound S h1 ?_).2 k.1
      have := k.1
      simp only [cellV, Bool.and_eq_true] at this
      exact this.1
    · exact all_one S h2 k.2 u e

theorem store_box_sound (S : Sat c m0 w0 fx m bk st a w) {t : TypeId} {id off : Nat} {cs : List EV} {v : EV} {p u : Value} (hp : Rep c.P m (.box id off) (J st.hp bk) p) (hu : Rep c.P m v (J st.hp bk) u) (he : st.hp[id]? = some (.box .own cs))
    (h1 : oneV st v = true) (h2 : v.cells.all (cellV st) = true) (h3 : v.cells.length = c.sizeOf t) (h4 : off + v.cells.length ≤ cs.length) (h5 : 1 ≤ v.cells.length) {K : EV → List Ent → Prop} (k : K .bot (st.hp.set id (.box .own (laid cs off v.cells)))) :
    ∃ w', (Instr.storeAt t p u).run c.P w = .ok () w' ∧ Res c m0 w0 fx st a K undef w' := by
  obtain ⟨md, cs', b, q1, q2, q3⟩ := hp
  rw [he] at q1; cases q1
  subst q3
  obtain ⟨kk, k1, k2⟩ := S.ents id _ he
  rw [q2] at k1; cases k1
  obtain ⟨us, T, e1, e2, e3, e4, e5⟩ := k2
  obtain ⟨r1, _⟩ := cells_sound S hu h1
  have hlen : u.cells.size = v.cells.length := by rw [← RepL_length r1]; simp
  have hcs : us.size = cs.length := by rw [← RepL_length e2]; simp
  have hrun := run_storeAt (P := c.P) (t := t) (o := off) (u := u) e1 (by rw [hlen, h3]; rfl) (by omega) (by omega) (all_one S r1 h2)
  refine ⟨_, hrun, .bot, _, m, bk.set id (.box b), k, ?_, trivial⟩
  have hsame : ∀ b', b' < w.heap.size → (Cn.box b).blk ≠ some b' → (w.setRow b (us.toList.take off ++ u.cells.toList ++ us.toList.drop (off + u.cells.toList.length)).toArray).heap[b']? = w.heap[b']? :=
    fun b' _ hne => setRow_other w b b' _ (fun e => hne (by rw [e]; rfl))
  refine S.update he rfl q2 (Below.of_same S.below rfl rfl rfl (by simp) fun i hi => setRow_other w b i _ (by have := (S.blk_lt (i := id) (b := b) (by rw [q2]; rfl)).1; omega)) (by simp) hsame (fun b' h => .inl h) (fun e u => J_set_box he q2 e u) ?_
  refine ⟨_, T, setRow_heap w b us _ T _ e1, ?_, e3, (fun q => by cases q), fun q => e5 q⟩
  exact RepL_mono (Mem.le_refl m) _ (fun e u => J_set_box he q2 e u) (laid_sound e2 r1)

theorem splice {α : Type} (P D Q u : List α) (off : Nat) (h : off + u.length ≤ D.length) :
    (P ++ D ++ Q).take (P.length + off) ++ u ++ (P ++ D ++ Q).drop (P.length + off + u.length) = P ++ (D.take off ++ u ++ D.drop (off + u.length)) ++ Q := by
  rw [List.append_assoc P D Q, List.take_length_add_append, Nat.add_assoc, List.drop_length_add_append, List.take_append_of_le_length (by omega), List.drop_append_of_le_length h]
  simp

theorem frz_none (S : Sat c m0 w0 fx m bk st a w) : FrzOK c.P m m st.hp bk (fun _ => False) := fun _ h => h.elim

theorem store_row_sound (S : Sat c m0 w0 fx m bk st a w) {t : TypeId} {id ver vv kk off : Nat} {e : TypeId} {s : Shape} {xs : List s.Val} {v : EV} {p u : Value} (hp : Rep c.P m (.rp id ver kk off) (J st.hp bk) p) (hu : Rep c.P m v (J st.hp bk) u) (he : st.hp[id]? = some (.row .own vv e s xs)) (hv : vv = ver)
    (h1 : oneV st v = true) (h2 : v.cells.all (cellV st) = true) (h3 : v.cells.length = c.sizeOf t) (h4 : off + v.cells.length ≤ s.size) (h5 : 1 ≤ v.cells.length) (h6 : noIds (EV.idsL (laid (s.cellsE (rd s xs kk)) off v.cells)) = true) {K : EV → List Ent → Prop}
    (k : decC c st s (laid (s.cellsE (rd s xs kk)) off v.cells) fun y r => match r with
      | [] => K .bot (st.hp.set id (.row .own vv e s (xs.set kk y)))
      | _ => False) :
    ∃ w', (Instr.storeAt t p u).run c.P w = .ok () w' ∧ Res c m0 w0 fx st a K undef w' := by
  obtain ⟨md, v', e', s', xs', cv, q1, q2, q3, q4⟩ := hp
  rw [he] at q1; cases q1
  obtain ⟨g, n, cap, rfl, rfl, q5⟩ := q4 hv.symm
  obtain ⟨kq, k1, k2⟩ := S.ents id _ he
  rw [q2] at k1; cases k1
  obtain ⟨cs, r1, r2, r3, r4⟩ := k2
  rcases r2.2 with ⟨q6, _⟩ | ⟨g', cap', cur, e1, e2, e3, e4, e5, e6, e7⟩
  · cases q6
  simp only [Value.slice.injEq, Option.some.injEq, Addr.mk.injEq, and_true, true_and] at e1
  obtain ⟨rfl, rfl, rfl⟩ := e1
  obtain ⟨d, d1, d2⟩ := RowRep_get r1 (rd_get q5)
  obtain ⟨c1, _⟩ := cells_sound S hu h1
  have hlen : u.cells.size = v.cells.length := by rw [← RepL_length c1]; simp
  have hlen' : u.cells.toList.length = v.cells.length := by simpa using hlen
  have hl := laid_sound (off := off) (RepL_cells s (J st.hp bk) d1) c1
  have hno : ∀ i ∈ EV.idsL (laid (s.cellsE (rd s xs kk)) off v.cells), False := by
    intro i hi
    unfold noIds at h6
    split at h6
    · rename_i hh; rw [hh] at hi; cases hi
    · cases h6
  obtain ⟨y, r, us1, us2, y1, y2, y3, y4, _⟩ := (dec_sound (frz_none S) (Mem.le_refl m) S.tab s).2.1 _ _ _ hl hno k
  split at y1
  · rw [RepL_nil.1 y4, List.append_nil] at y2
    subst y2
    have hcl := RowRep_length r1
    have hd := Reps.C_length s d1
    have hk1 : (kk + 1) * s.size ≤ xs.length * s.size := Nat.mul_le_mul_right _ (by omega)
    have hk2 : (kk + 1) * s.size = kk * s.size + s.size := Nat.succ_mul _ _
    have hxc : xs.length * s.size ≤ cap * s.size := Nat.mul_le_mul_right _ e4
    have hrun := run_storeAt (P := c.P) (t := t) (o := kk * s.size + off) (u := u) e3 (by rw [hlen, h3]; rfl) (by omega) (by rw [e6]; omega) (all_one S c1 h2)
    refine ⟨_, hrun, .bot, _, m, bk.set id (.row (.slice (some ⟨g, 0, none⟩) xs.length cap)), y1, ?_, trivial⟩
    have hsame : ∀ b', b' < w.heap.size → (Cn.row (.slice (some ⟨g, 0, none⟩) xs.length cap)).blk ≠ some b' →
        (w.setRow g (cur.toList.take (kk * s.size + off) ++ u.cells.toList ++ cur.toList.drop (kk * s.size + off + u.cells.toList.length)).toArray).heap[b']? = w.heap[b']? :=
      fun b' _ hne => setRow_other w g b' _ (fun e => hne (by rw [e]; rfl))
    refine S.update he rfl q2 (Below.of_same S.below rfl rfl rfl (by simp) fun i hi => setRow_other w g i _ (by omega)) (by simp) hsame (fun b' h => .inl h) (fun e u => J_set_row he q2 (by simp) e u) ?_
    refine ⟨cs.take (kk * s.size) ++ (d.take off ++ u.cells.toList ++ d.drop (off + u.cells.toList.length)) ++ cs.drop (kk * s.size + s.size), RowRep_set r1 q5 y3, ⟨?_, .inr ⟨g, cap, _, by simp, e2, setRow_heap w g cur _ e _ e3, by simpa using e4, e5, ?_, ?_⟩⟩, (fun q => by cases q), r4⟩
    · have := RowRep_length (RowRep_set r1 q5 y3)
      exact this
    · simp only [List.size_toArray, List.length_append, List.length_take, List.length_drop, Array.length_toList, e6]
      omega
    · simp only [List.length_set]
      have hcur : cur.toList = cs.take (kk * s.size) ++ d ++ (cs.drop (kk * s.size + s.size) ++ cur.toList.drop (xs.length * s.size)) := by
        have h1 : cs = cs.take (kk * s.size) ++ d ++ cs.drop (kk * s.size + s.size) := by
          rw [← d2, ← List.drop_drop, List.append_assoc, List.take_append_drop, List.take_append_drop]
        rw [← List.append_assoc, ← h1, ← e7, List.take_append_drop]
      have hP : (cs.take (kk * s.size)).length = kk * s.size := by rw [List.length_take]; omega
      rw [hcur]
      have := splice (cs.take (kk * s.size)) d (cs.drop (kk * s.size + s.size) ++ cur.toList.drop (xs.length * s.size)) u.cells.toList off (by omega)
      rw [hP] at this
      rw [this, ← List.append_assoc]
      refine List.take_left' ?_
      simp only [List.length_append, List.length_take, List.length_drop]
      omega
  · exact y1.elim

theorem zero_info {e : TypeId} {s : Shape} (hz : c.zeroOK e s = true) : ∃ i z, c.P.info? e = some i ∧ i.zero = some z ∧ z.cells.size = s.size := by
  obtain ⟨z, z1, z2, _⟩ := zeroOK_sound (c := c) (m := fun _ _ => none) (fun _ _ => False) hz
  cases hi : c.P.info? e with
  | none => rw [hi] at z1; cases z1
  | some i =>
    rw [hi] at z1
    exact ⟨i, z, rfl, z1, by rw [← zeroC_length s, ← RepL_length z2]; simp⟩

theorem run_append_nothing (w : World) (base : Nat) (t ty e : TypeId) (i : TypeInfo) (size : Nat) (ht : c.P.underlying t = some (.slice e)) (hi : c.P.info? e = some i) (v : Value) (n cap : Nat) (xs : List Value) (hown : w.ownsRow base e size v n xs) :
    (Builtin.append_ #[t, t] ty #[v, .slice none 0 cap]).run c.P w = .ok v w := by
  rcases hown.2 with ⟨rfl, rfl⟩ | ⟨g, cap', cur, rfl, _, _, hnc, _⟩
  · simp [Builtin.append_, run_underlying ht, sizeOf, typeInfo, hi, Builtin.lenOf, Builtin.firstCells]
  · simp [Builtin.append_, run_underlying ht, sizeOf, typeInfo, hi, Builtin.lenOf, Builtin.firstCells, hnc, storeCells]

/-- The library's law of append, and where the result lies. -/
theorem run_append_own' {P : Program} (w : World) (base : Nat) (t ty e : TypeId) (i : TypeInfo) (z : Value) (size bytes : Nat) (ht : P.underlying t = some (.slice e)) (hi : P.info? e = some i) (hz : i.zero = some z)
    (hsize : i.size = size) (hby : i.bytes = bytes) (hzs : z.cells.size = size) (hsz : 0 < size) (v : Value) (n : Nat) (xs : List Value) (hown : w.ownsRow base e size v n xs)
    (ad : Addr) (k cp : Nat) (news : List Value) (hl : news.length = k * size) (hnews : ∀ j u, news[j]? = some u → w.cell? (ad.add j) = some u) (h1 : ∀ u ∈ news, u.oneCell' = true)
    (h63 : n + k ≤ maxLen) (hbytes : (n + k) * bytes ≤ 140737488355328) (hbase : base ≤ w.heap.size) :
    ∃ v' w', (Builtin.append_ #[t, t] ty #[v, .slice (some ad) k cp]).run P w = .ok v' w' ∧ w'.ownsRow base e size v' (n + k) (xs ++ news) ∧ w.grownBy w' v.ownBlock ∧ (∀ b, v'.ownBlock = some b → v.ownBlock = some b ∨ w.heap.size ≤ b) := by
  obtain ⟨v', w', r1, r2, r3, _⟩ := run_append_own (P := P) w base t ty e i z size bytes ht hi hz hsize hby hzs hsz v n xs hown ad k cp news hl hnews h1 h63 hbytes hbase
  refine ⟨v', w', r1, r2, r3, ?_⟩
  subst hsize
  subst hby
  have hsmall : n + k ≤ 9223372036854775807 := by simp only [maxLen] at h63; omega
  rcases hown.2 with ⟨rfl, rfl⟩ | ⟨g, cap, cur, rfl, hbg, hg, hnc, hcm, hcs, htake⟩
  · by_cases hk : k = 0
    · subst hk
      have hn : news = [] := List.eq_nil_of_length_eq_zero (by simpa using hl)
      subst hn
      have hr : (Builtin.append_ #[t, t] ty #[.slice none 0 0, .slice (some ad) 0 cp]).run P w = .ok (.slice none 0 0) w := by
        simp [Builtin.append_, run_underlying ht, sizeOf, typeInfo, hi, Builtin.lenOf, Builtin.firstCells, loadCells, loadCellsFrom]
      rw [hr] at r1; cases r1
      intro b hb; cases hb
    · have hr := run_append_nil (P := P) w t ty e i z ht hi hz ad k cp news hl hnews (by omega) (by omega) (by have hb := hbytes; simp only [Nat.zero_add] at hb; omega)
      rw [hr] at r1; cases r1
      intro b hb; cases hb
      exact .inr (Nat.le_refl _)
  · by_cases hroom : n + k ≤ cap
    · have hfit : n * i.size + news.length ≤ cur.size := by rw [hl, hcs, ← Nat.add_mul]; exact Nat.mul_le_mul_right _ hroom
      have hr := run_append_room (P := P) w t ty e i ht hi g n cap cur hg ad k cp news hl hnews h1 hroom hfit
      rw [hr] at r1; cases r1
      intro b hb; exact .inl hb
    · have holds : ∀ j u, xs[j]? = some u → w.cell? ((⟨g, 0, none⟩ : Addr).add j) = some u := hown.cells (g := g) rfl
      have hr := run_append_grow (P := P) w t ty e i z ht hi hz ⟨g, 0, none⟩ n cap xs hown.1 holds ad k cp news hl hnews (by omega) (by omega) (growslice_fits (by omega) hbytes)
      rw [hr] at r1; cases r1
      intro b hb; cases hb
      exact .inr (Nat.le_refl _)

theorem append_run (w : World) {n0 : Nat} {t ty e : TypeId} {s : Shape} (ht : c.P.underlying t = some (.slice e)) (hz : c.zeroOK e s = true) (hsz : c.sizeOf e = s.size) (hpos : 1 ≤ s.size) (hby : 1 ≤ c.P.bytesOf e) {cv : Value} {xs ys : List s.Val} {cs ds : List Value}
    (ho : w.ownsRow n0 e s.size cv xs.length cs) (hn0 : n0 ≤ w.heap.size) {base : Option Addr} {cap : Nat} (hy : RowRep c.P m s ys ds) (hd : ys = [] ∨ ∃ ad, base = some ad ∧ ∀ j v, ds[j]? = some v → w.cell? (ad.add j) = some v)
    (hb : (xs.length + ys.length) * c.P.bytesOf e ≤ 140737488355328) :
    ∃ v' w', (Builtin.append_ #[t, t] ty #[cv, .slice base ys.length cap]).run c.P w = .ok v' w' ∧ w'.ownsRow n0 e s.size v' (xs.length + ys.length) (cs ++ ds) ∧ w.grownBy w' cv.ownBlock ∧ (∀ b, v'.ownBlock = some b → cv.ownBlock = some b ∨ w.heap.size ≤ b) := by
  obtain ⟨i, z, hi, hz1, hz2⟩ := zero_info hz
  have hisz : i.size = s.size := by rw [← hsz]; simp [Cfg.sizeOf, Program.cellsOf, hi]
  have hiby : i.bytes = c.P.bytesOf e := by simp [Program.bytesOf, hi]
  have hmx : xs.length + ys.length ≤ maxLen := by
    have : (xs.length + ys.length) * 1 ≤ (xs.length + ys.length) * c.P.bytesOf e := Nat.mul_le_mul_left _ hby
    unfold maxLen; omega
  rcases hd with hd | ⟨ad, rfl, hd⟩
  · subst hd
    have hds : ds = [] := hy
    subst hds
    cases base with
    | none =>
      refine ⟨cv, w, run_append_nothing w n0 t ty e i s.size ht hi cv xs.length cap cs ho, by simpa using ho, ⟨rfl, rfl, rfl, Nat.le_refl _, fun _ _ _ => rfl⟩, fun b hb => .inl hb⟩
    | some ad =>
      obtain ⟨v', w', h1, h2, h3, h4⟩ := run_append_own' (P := c.P) w n0 t ty e i z s.size i.bytes ht hi hz1 hisz rfl hz2 hpos cv xs.length cs ho ad 0 cap [] (by simp) (fun j u h => by simp at h) (fun u h => by cases h) (by simpa using hmx) (by rw [hiby]; simpa using hb) hn0
      exact ⟨v', w', h1, h2, h3, h4⟩
  · obtain ⟨v', w', h1, h2, h3, h4⟩ := run_append_own' (P := c.P) w n0 t ty e i z s.size i.bytes ht hi hz1 hisz rfl hz2 hpos cv xs.length cs ho ad ys.length cap ds (RowRep_length hy) hd (RowRep_one hy) hmx (by rw [hiby]; exact hb) hn0
    exact ⟨v', w', h1, h2, h3, h4⟩

theorem append_row_sound (S : Sat c m0 w0 fx m bk st a w) {t ty e : TypeId} {id ver v : Nat} {s : Shape} {xs ys : List s.Val} {p : Value} {ds : List Value} {base : Option Addr} {cap : Nat} (hp : Rep c.P m (.row id ver) (J st.hp bk) p) (he : st.hp[id]? = some (.row .own v e s xs)) (hv : v = ver)
    (ht : c.P.underlying t = some (.slice e)) (hz : c.zeroOK e s = true) (hsz : c.sizeOf e = s.size) (hpos : 1 ≤ s.size) (hby : 1 ≤ c.P.bytesOf e) (hy : RowRep c.P m s ys ds) (hd : ys = [] ∨ ∃ ad, base = some ad ∧ ∀ j v, ds[j]? = some v → w.cell? (ad.add j) = some v)
    (hb : (xs.length + ys.length) * c.P.bytesOf e ≤ 140737488355328) {K : EV → List Ent → Prop} (k : K (.row id (ver + 1)) (st.hp.set id (.row .own (ver + 1) e s (xs ++ ys)))) :
    ∃ u w', (Builtin.append_ #[t, t] ty #[p, .slice base ys.length cap]).run c.P w = .ok u w' ∧ Res c m0 w0 fx st a K u w' := by
  subst hv
  obtain ⟨hk, _⟩ := S.rowVal he rfl hp
  obtain ⟨kq, k1, k2⟩ := S.ents id _ he
  rw [hk] at k1; cases k1
  obtain ⟨cs, r1, r2, r3, r4⟩ := k2
  have hid := (List.getElem?_eq_some_iff.1 he).1
  have hid' := (List.getElem?_eq_some_iff.1 hk).1
  obtain ⟨v', w', h1, h2, h3, h4⟩ := append_run (m := m) w (ty := ty) ht hz hsz hpos hby r2 S.n0le (cap := cap) hy hd hb
  have hJ : ∀ e' u, J st.hp bk e' u → J (st.hp.set id (.row .own (v + 1) e s (xs ++ ys))) (bk.set id (.row v')) e' u := fun e' u => J_next_row he hk e' u
  refine ⟨v', w', h1, _, _, m, bk.set id (.row v'), k, ?_, ?_⟩
  · refine S.update he rfl hk (Below.of_same S.below h3.os h3.tape h3.output h3.size fun i hi => h3.block i (by have := S.n0le; omega) (fun e' => ?_)) h3.size (fun b hb hne => h3.block b hb fun e' => hne e'.symm) h4 hJ ?_
    · have := (S.blk_lt (i := id) (b := i) (by rw [hk]; exact e'.symm)).1
      omega
    · refine ⟨cs ++ ds, RowRep_append r1 hy, by rw [List.length_append]; exact h2, (fun q => by cases q), fun _ g hg o => ?_⟩
      rcases h4 g hg with q | q
      · exact r4 (by intro q; cases q) g q o
      · cases hq : m g o with
        | none => rfl
        | some x => exact absurd (S.mem_lt hq) (by omega)
  · exact ⟨.own, v + 1, e, s, xs ++ ys, v', List.getElem?_set_self hid, List.getElem?_set_self hid', Nat.le_refl _, fun _ => rfl⟩

theorem append_nil_sound (S : Sat c m0 w0 fx m bk st a w) {t ty e : TypeId} {s : Shape} {ys : List s.Val} {ds : List Value} {base : Option Addr} {cap : Nat}
    (ht : c.P.underlying t = some (.slice e)) (hz : c.zeroOK e s = true) (hsz : c.sizeOf e = s.size) (hpos : 1 ≤ s.size) (hby : 1 ≤ c.P.bytesOf e) (hy : RowRep c.P m s ys ds) (hd : ys = [] ∨ ∃ ad, base = some ad ∧ ∀ j v, ds[j]? = some v → w.cell? (ad.add j) = some v)
    (hb : ys.length * c.P.bytesOf e ≤ 140737488355328) {K : EV → List Ent → Prop} (k : K (.row st.hp.length 0) (st.hp ++ [.row .own 0 e s ys])) :
    ∃ u w', (Builtin.append_ #[t, t] ty #[.slice none 0 0, .slice base ys.length cap]).run c.P w = .ok u w' ∧ Res c m0 w0 fx st a K u w' := by
  obtain ⟨v', w', h1, h2, h3, h4⟩ := append_run (m := m) (xs := ([] : List s.Val)) w (ty := ty) ht hz hsz hpos hby (World.ownsRow_nil w fx.n0 e s.size) S.n0le (cap := cap) hy hd (by simpa using hb)
  simp only [List.length_nil, Nat.zero_add, List.nil_append] at h2
  have hnew : ∀ b, v'.ownBlock = some b → w.heap.size ≤ b := fun b hb => by
    rcases h4 b hb with q | q
    · cases q
    · exact q
  have hsame : ∀ b, b < w.heap.size → w'.heap[b]? = w.heap[b]? := fun b hb => h3.block b hb (by intro q; cases q)
  exact ⟨v', w', h1, (new_row S e s (Below.of_same S.below h3.os h3.tape h3.output h3.size fun i hi => hsame i (by have := S.n0le; omega)) hsame hy h2 hnew k h3.size).1⟩
end
end Go.Proofs.YtjeoelajkncpcaaDoor.V
