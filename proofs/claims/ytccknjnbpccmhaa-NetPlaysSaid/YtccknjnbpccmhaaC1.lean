/- append where there is room, clear; slices.Delete. -/
import Derived.Test.YtccknjnbpccmhaaB1
namespace Go.Proofs.Ytccknjnbpccmhaa
open Go.RowKit

section
variable {w w' : World} {e : TypeId} {size n : Nat} {xs : List Value} {P : Program}

theorem run_append_in (t ty : TypeId) (i : TypeInfo) (ht : P.underlying t = some (.slice e)) (hi : P.info? e = some i) (hsize : i.size = size)
    {g cap : Nat} (hown : Own w e size (.slice (some ⟨g, 0, none⟩) n cap) n xs) {src : Value} {m : Nat} {news : List Value} (hsrc : Rd w e size src m news) (h1 : ∀ u ∈ news, u.oneCell' = true) (hroom : n + m ≤ cap) :
    ∃ w', (Builtin.append_ #[t, t] ty #[.slice (some ⟨g, 0, none⟩) n cap, src]).run P w = .ok (.slice (some ⟨g, 0, none⟩) (n + m) cap) w' ∧ Own w' e size (.slice (some ⟨g, 0, none⟩) (n + m) cap) (n + m) (xs ++ news) ∧ Frm (fun k => k = g) w w' := by
  subst hsize
  have hl := hsrc.1
  have hlen : (xs ++ news).length = (n + m) * i.size := by rw [List.length_append, hown.1, hl, Nat.add_mul]
  rcases hown.2 with ⟨h, _⟩ | ⟨g', cap', c, h, a2, a3, a4, a5, a6⟩
  · cases h
  · cases h
    rcases hsrc.cases with ⟨rfl, rfl⟩ | ⟨sa, scap, rfl, _⟩
    · have hn0 : news = [] := List.eq_nil_of_length_eq_zero (by simpa using hl)
      subst hn0
      refine ⟨w, ?_, by simpa using hown, Frm.refl _ w⟩
      simp [Builtin.append_, run_underlying ht, sizeOf, typeInfo, hi, Builtin.lenOf, Builtin.firstCells, a3, storeCells]
    · have hnews := (hsrc.cells rfl).2
      have hfit : n * i.size + news.length ≤ c.size := by rw [hl, ← Nat.add_mul]; exact Nat.le_trans (Nat.mul_le_mul_right _ hroom) a4
      have hr := run_append_room (P := P) w t ty e i ht hi g n cap c a2 sa m scap news hl hnews h1 hroom hfit
      refine ⟨_, hr, ⟨hlen, .inr ⟨g, cap, _, rfl, setRow_heap w g c _ e _ a2, hroom, ?_, a5, ?_⟩⟩, ⟨rfl, rfl, rfl, by simp [World.setRow], fun k _ hk => setRow_other w g k _ hk⟩⟩
      · simp only [List.size_toArray, List.length_append, List.length_take, List.length_drop, Array.length_toList]
        omega
      · rw [a6, ← hlen]
        exact List.take_left

theorem step_append_in {ops : Array Oper} {o : Oper} {a : Act} {K : Act → World → Prop} {Q : Exit → Act → World → Prop} {E : Prop} (hgd : o.guard = none) (s x : Operand) (t : TypeId)
    (ho : o.op = .call { callee := .builtin .append, args := #[s, x], argTypes := #[t, t] })
    (i : TypeInfo) (ht : P.underlying t = some (.slice e)) (hi : P.info? e = some i) (hsize : i.size = size)
    {g cap : Nat} {src : Value} (hs : a.eval s = .slice (some ⟨g, 0, none⟩) n cap) (hx : a.eval x = src) (hown : Own w e size (.slice (some ⟨g, 0, none⟩) n cap) n xs)
    {m : Nat} {news : List Value} (hsrc : Rd w e size src m news) (h1 : ∀ u ∈ news, u.oneCell' = true) (hroom : n + m ≤ cap)
    (h : ∀ w', Own w' e size (.slice (some ⟨g, 0, none⟩) (n + m) cap) (n + m) (xs ++ news) → Frm (fun k => k = g) w w' → K (a.put o.dst (.slice (some ⟨g, 0, none⟩) (n + m) cap)) w') :
    if Region.wanted o (yielded ops a.tmps) = true then o.wp P a w K Q else E := by
  obtain ⟨w', hr, h2, h3⟩ := run_append_in (P := P) t o.type i ht hi hsize hown hsrc h1 hroom
  rw [if_pos (by simp [Region.wanted, hgd])]
  unfold Oper.wp execOp
  simp only [ho, resolve, invoke, builtin, Sem.run_bind, Sem.run_pure, Result.andThen_ok, List.map_toArray, List.map_cons, List.map_nil, hs, hx, hr]
  exact h w' h2 h3

/-- clear of k > 0 elements from element j on -/
theorem run_clear (t ty : TypeId) (z : Value) (ht : P.underlying t = some (.slice e)) (hz : ∀ w, (zeroValue e).run P w = .ok z w) (hzs : z.cells.size = size) (hz1 : ∀ u ∈ z.cells.toList, u.oneCell' = true)
    {g o k c : Nat} {cur : Array Value} (hg : w.heap[g]? = some (.cells cur e (0, 0))) (hfit : o + k * size ≤ cur.size) (hk : 0 < k) :
    ∃ w' cur', (Builtin.clear_ #[t] ty #[.slice (some ⟨g, o, none⟩) k c]).run P w = .ok (.tuple #[]) w' ∧ Frm (fun k => k = g) w w' ∧ w'.heap[g]? = some (.cells cur' e (0, 0)) ∧ cur'.size = cur.size ∧ cur'.toList.take o = cur.toList.take o := by
  have hl : (Builtin.zeroCells z.cells k).size = k * size := by simp [size_zeroCells, hzs]
  have h1 : ∀ u ∈ (Builtin.zeroCells z.cells k).toList, u.oneCell' = true := by
    intro u hu
    unfold Builtin.zeroCells at hu
    rw [Array.toList_map] at hu
    obtain ⟨j, hj, rfl⟩ := List.mem_map.1 hu
    have hj2 : j < k * z.cells.size := by simpa using hj
    have hp : 0 < z.cells.size := Nat.pos_of_ne_zero (fun h => by rw [h] at hj2; simp at hj2)
    have hlt : j % z.cells.size < z.cells.size := Nat.mod_lt _ hp
    rw [getElem!_pos z.cells _ hlt]
    exact hz1 _ (Array.getElem_mem_toList hlt)
  have hst := run_storeCells_at P g o e (Builtin.zeroCells z.cells k).toList 0 cur w hg (by rw [Array.length_toList, hl]; simpa using hfit) h1
  simp only [Nat.add_zero] at hst
  obtain ⟨m, rfl⟩ : ∃ m, k = m + 1 := ⟨k - 1, by omega⟩
  refine ⟨w.setRow g (cur.toList.take o ++ (Builtin.zeroCells z.cells (m + 1)).toList ++ cur.toList.drop (o + (Builtin.zeroCells z.cells (m + 1)).toList.length)).toArray, (cur.toList.take o ++ (Builtin.zeroCells z.cells (m + 1)).toList ++ cur.toList.drop (o + (Builtin.zeroCells z.cells (m + 1)).toList.length)).toArray, ?_, ⟨rfl, rfl, rfl, by simp [World.setRow], fun k _ hk => setRow_other w g k _ hk⟩, setRow_heap w g cur _ e _ hg, ?_, ?_⟩
  · simp [Builtin.clear_, run_underlying ht, hz, hst]
  · simp only [List.size_toArray, List.length_append, List.length_take, List.length_drop, Array.length_toList]
    rw [hl]; omega
  · simp only [List.append_assoc]
    rw [List.take_append_of_le_length (by simp; omega), List.take_take, Nat.min_self]
end

theorem zeroMsg (w : World) : (zeroValue 25).run Try.prog w = .ok (.agg #[.int .i64 0, .int .i64 0, .slice none 0 0]) w := by kernel_rfl

/-- The elements of a row from i on are struck: the row's beginning stays. -/
theorem row_clear {w : World} {g cap n i : Nat} {rows : List Mr} (h : Row w (.slice (some ⟨g, 0, none⟩) rows.length cap) rows) (hi : i ≤ rows.length) (hin : i < n) (hn : n ≤ cap) (ty : TypeId) (c : Nat) :
    ∃ w', (Builtin.clear_ #[31] ty #[.slice (some ⟨g, i * 3, none⟩) (n - i) c]).run Try.prog w = .ok (.tuple #[]) w' ∧ Frm (fun k => k = g) w w' ∧ Row w' (.slice (some ⟨g, 0, none⟩) i cap) (rows.take i) := by
  rcases h.2 with ⟨h, _⟩ | ⟨g', cap', c', h', a2, a3, a4, a5, a6⟩
  · cases h
  · cases h'
    obtain ⟨w', cur', r1, r2, r3, r4, r5⟩ := run_clear (size := 3) (w := w) (k := n - i) (o := i * 3) (c := c) 31 ty _ Try.underlying31 zeroMsg rfl (by simp [Value.cells, Value.oneCell']) a2 (by omega) (by omega)
    refine ⟨w', r1, r2, ?_⟩
    have hl : (rows.take i).length = i := by simp [hi]
    unfold Row
    rw [hl]
    refine ⟨by rw [cellsOf_length, hl], .inr ⟨g, cap, cur', rfl, r3, by omega, by omega, a5, ?_⟩⟩
    rw [r5, cellsOf_take rows i hi, ← a6, List.take_take, Nat.min_eq_left (by omega)]
theorem row_cut {w : World} {g cap i : Nat} {rows : List Mr} (h : Row w (.slice (some ⟨g, 0, none⟩) rows.length cap) rows) (hi : i ≤ rows.length) : Row w (.slice (some ⟨g, 0, none⟩) i cap) (rows.take i) := by
  rcases h.2 with ⟨h, _⟩ | ⟨g', cap', c', h', a2, a3, a4, a5, a6⟩
  · cases h
  · cases h'
    have hl : (rows.take i).length = i := by simp [hi]
    unfold Row
    rw [hl]
    refine ⟨by rw [cellsOf_length, hl], .inr ⟨g, cap, c', rfl, a2, by omega, a4, a5, ?_⟩⟩
    rw [cellsOf_take rows i hi, ← a6, List.take_take, Nat.min_eq_left (by omega)]
/-- the row's end, from i on, is read -/
theorem row_end {w : World} {g cap i : Nat} {rows : List Mr} (h : Row w (.slice (some ⟨g, 0, none⟩) rows.length cap) rows) (hi : i ≤ rows.length) {A : Option Addr} (hA : A = if cap = i then some ⟨g, 0, none⟩ else some ⟨g, i * 3, none⟩) :
    RowR w (.slice A (rows.length - i) (cap - i)) (rows.drop i) := by
  rcases h.2 with ⟨h, _⟩ | ⟨g', cap', c', h', a2, a3, a4, a5, a6⟩
  · cases h
  · cases h'
    have hl : (rows.drop i).length = rows.length - i := by simp
    unfold RowR
    rw [hl]
    refine ⟨by rw [cellsOf_length, hl], ?_⟩
    by_cases hc : cap = i
    · rw [if_pos hc] at hA
      subst hA
      have hz : rows.length - i = 0 := by omega
      exact .inr (.inl ⟨hz, _, cap - i, by rw [hz], by omega⟩)
    · rw [if_neg hc] at hA
      subst hA
      refine .inr (.inr ⟨g, i * 3, cap - i, c', 25, (0, 0), rfl, a2, by omega, by omega, ?_⟩)
      rw [cellsOf_drop rows i hi, ← a6, List.drop_take, Nat.sub_mul]

set_option maxRecDepth 100000 in
set_option maxHeartbeats 2000000 in
theorem slDelete_spec (w : World) (g cap i : Nat) (rows : List Mr) (h : Row w (.slice (some ⟨g, 0, none⟩) rows.length cap) rows) (hone : ∀ u ∈ cellsOf rows, u.oneCell' = true) (hi : i < rows.length) :
    Calls Try.prog 26 #[.slice (some ⟨g, 0, none⟩) rows.length cap, .int .i64 i, .int .i64 ((i : Int) + 1)] w fun e w' =>
      e = .returned (.slice (some ⟨g, 0, none⟩) (rows.length - 1) cap) ∧ Row w' (.slice (some ⟨g, 0, none⟩) (rows.length - 1) cap) (rows.eraseIdx i) ∧ Frm (fun k => k = g) w w' := by
  obtain ⟨a0, c0, he, k1, k2, k3⟩ := h.rd.shape
  cases he
  unfold maxLen at k2 k3
  obtain ⟨i0, hi0, hz0, hz1, hz2⟩ := info_parts infoMsg
  obtain ⟨m, hm⟩ : ∃ m, rows.length = m + 1 := ⟨rows.length - 1, by omega⟩
  have hcut := row_cut h (Nat.le_of_lt hi)
  have hL1 : (rows.take i).length = i := by simp; omega
  have hL2 : (rows.drop (i + 1)).length = m - i := by simp; omega
  have hone2 : ∀ u ∈ cellsOf (rows.drop (i + 1)), u.oneCell' = true := by
    intro u hu
    rw [cellsOf_drop rows (i + 1) hi] at hu
    exact hone u (List.mem_of_mem_drop hu)
  have hlen : (rows.eraseIdx i).length = m := by rw [List.length_eraseIdx_of_lt hi]; omega
  have hsub : rows.length - (i + 1) = m - i := by omega
  have hsum : i + (m - i) = m := by omega
  have Hsum := Lib.hid hsum
  have Hone := Lib.hid hone2
  have Hlen := Lib.hid hlen
  clear hsum hone2 hone hlen
  have hij : (i : Int) ≤ (i : Int) + 1 := by omega
  have hic : i ≤ cap := by omega
  have hic1 : i + 1 ≤ cap := by omega
  have hin : i ≤ m := by omega
  have hj1 : (0 : Int) ≤ (i : Int) + 1 := by omega
  have hj2 : (i : Int) + 1 ≤ (m : Int) + 1 := by omega
  by_cases hc : cap = i + 1
  · have hend := row_end (A := some ⟨g, 0, none⟩) h hi (by rw [if_pos hc])
    subst hc
    rw [Nat.sub_self, hsub] at hend
    rw [hm] at k1 k2 ⊢
    clear h hm hsub
    rw [Nat.add_sub_cancel]
    have Hcut2 : Hid (Own w.drew 25 3 (.slice (some ⟨g, 0, none⟩) i (i + 1)) i (cellsOf (rows.take i))) := by
      have h := hcut.of_eq (w' := w.drew) (fun _ _ => rfl)
      unfold Row at h
      rw [hL1] at h
      exact h
    have Hend2 : Hid (Rd w.drew 25 3 (.slice (some ⟨g, 0, none⟩) (m - i) (0)) (m - i) (cellsOf (rows.drop (i + 1)))) := by
      have h := hend.of_eq (w' := w.drew) (fun _ _ => rfl)
      unfold RowR at h
      rw [hL2] at h
      exact h
    clear hend hcut hL1 hL2
    go_enter Try.func26, Try.ntmps26
    go_wp2_with fail
    go_region_law (
      (refine step_append_in (w := w.drew) (size := 3) (n := i) (xs := cellsOf (rows.take i)) (m := m - i) (news := cellsOf (rows.drop (i + 1))) (src := .slice (some ⟨g, 0, none⟩) (m - i) (0)) rfl _ _ 31 rfl i0 Try.underlying31 hi0 hz1 (g := g) (cap := i + 1) (by simp [Act.eval, Act.put]) (by simp [Act.eval, Act.put] <;> omega) Hcut2.out Hend2.out Hone.out (by omega) ?_
       intro w2 a1 a2
       rw [Hsum.out] at a1
       rw [Hsum.out]))
    all_goals
      have a3 : Row w2 (.slice (some ⟨g, 0, none⟩) m (i + 1)) (rows.eraseIdx i) := by
        unfold Row
        rw [← cellsOf_append, ← List.eraseIdx_eq_take_drop_succ] at a1
        rw [Hlen.out]; exact a1
      obtain ⟨w3, r1, r2, r3⟩ := row_clear (n := m + 1) (i := m) (by rw [Hlen.out]; exact a3) (by rw [Hlen.out]; exact Nat.le_refl _) (Nat.lt_succ_self m) (by omega) 0 (i + 1 - m)
      rw [Nat.add_sub_cancel_left] at r1
      have R1 := Lib.hid r1
      clear r1 a1
      go_wp2_with fail
      rw [R1.out]
      go_wp2_with fail
      go_ret
      refine ⟨rfl, ?_, Frm.trans (Frm.trans ((Frm.refl (fun k => k = g) w).drew) a2 (fun _ _ h => h)) r2 (fun _ _ h => h)⟩
      rw [List.take_of_length_le (by rw [Hlen.out]; exact Nat.le_refl _)] at r3
      unfold Row at r3 ⊢
      exact r3
  · have hend := row_end (A := some ⟨g, (i + 1) * 3, none⟩) h hi (by rw [if_neg hc])
    rw [hsub] at hend
    rw [hm] at k1 k2 ⊢
    clear h hm hsub
    rw [Nat.add_sub_cancel]
    have Hcut2 : Hid (Own w.drew 25 3 (.slice (some ⟨g, 0, none⟩) i (cap)) i (cellsOf (rows.take i))) := by
      have h := hcut.of_eq (w' := w.drew) (fun _ _ => rfl)
      unfold Row at h
      rw [hL1] at h
      exact h
    have Hend2 : Hid (Rd w.drew 25 3 (.slice (some ⟨g, (i + 1) * 3, none⟩) (m - i) (cap - (i + 1))) (m - i) (cellsOf (rows.drop (i + 1)))) := by
      have h := hend.of_eq (w' := w.drew) (fun _ _ => rfl)
      unfold RowR at h
      rw [hL2] at h
      exact h
    clear hend hcut hL1 hL2
    go_enter Try.func26, Try.ntmps26
    go_wp2_with fail
    go_region_law (
      (refine step_append_in (w := w.drew) (size := 3) (n := i) (xs := cellsOf (rows.take i)) (m := m - i) (news := cellsOf (rows.drop (i + 1))) (src := .slice (some ⟨g, (i + 1) * 3, none⟩) (m - i) (cap - (i + 1))) rfl _ _ 31 rfl i0 Try.underlying31 hi0 hz1 (g := g) (cap := cap) (by simp [Act.eval, Act.put]) (by simp [Act.eval, Act.put] <;> omega) Hcut2.out Hend2.out Hone.out (by omega) ?_
       intro w2 a1 a2
       rw [Hsum.out] at a1
       rw [Hsum.out]))
    all_goals
      have a3 : Row w2 (.slice (some ⟨g, 0, none⟩) m (cap)) (rows.eraseIdx i) := by
        unfold Row
        rw [← cellsOf_append, ← List.eraseIdx_eq_take_drop_succ] at a1
        rw [Hlen.out]; exact a1
      obtain ⟨w3, r1, r2, r3⟩ := row_clear (n := m + 1) (i := m) (by rw [Hlen.out]; exact a3) (by rw [Hlen.out]; exact Nat.le_refl _) (Nat.lt_succ_self m) (by omega) 0 (cap - m)
      rw [Nat.add_sub_cancel_left] at r1
      have R1 := Lib.hid r1
      clear r1 a1
      go_wp2_with fail
      rw [R1.out]
      go_wp2_with fail
      go_ret
      refine ⟨rfl, ?_, Frm.trans (Frm.trans ((Frm.refl (fun k => k = g) w).drew) a2 (fun _ _ h => h)) r2 (fun _ _ h => h)⟩
      rw [List.take_of_length_le (by rw [Hlen.out]; exact Nat.le_refl _)] at r3
      unfold Row at r3 ⊢
      exact r3
end Go.Proofs.Ytccknjnbpccmhaa
