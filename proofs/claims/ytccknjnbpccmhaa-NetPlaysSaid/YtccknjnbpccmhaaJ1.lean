/- The document's net: Give, Twice. -/
import Derived.Test.YtccknjnbpccmhaaG1
import Derived.Test.YtccknjnbpccmhaaI1
namespace Go.Proofs.Ytccknjnbpccmhaa
open Go.RowKit

theorem sub_blocks {a b : List Mr} (h : a.Sublist b) : (a.flatMap Mr.blocks).Sublist (b.flatMap Mr.blocks) := by
  induction h with
  | slnil => exact List.Sublist.refl _
  | cons r _ ih => simp only [List.flatMap_cons]; exact ih.trans (List.sublist_append_right _ _)
  | cons_cons r _ ih => simp only [List.flatMap_cons]; exact (List.Sublist.refl _).append ih

/-- A net gets a new row, of some of its messages. -/
theorem net_new {T : TypeId} {w w' : World} {bn : Nat} {v0 v' : Value} {L : List Nat} {rows rows' : List Mr} (hsub : rows'.Sublist rows)
    (h1 : w.heap[bn]? = some (.cells #[v0] T (0, 0))) (h3 : ∀ r ∈ rows, OwnB w r.dv r.m.data) (hnd : (bn :: (L ++ rows.flatMap Mr.blocks)).Nodup)
    (hlen : rows.length ≤ 1024) (hdat : ∀ r ∈ rows, r.m.data.length ≤ 1048576) (g : Grew w w')
    (hown : Row w' v' rows') (hfr : ∀ j, v'.ownBlock = some j → w.heap.size ≤ j) :
    NetAt T (w'.setCell ⟨bn, 0, none⟩ v') bn (rows'.map (·.m)) (bn :: (v'.ownBlock.toList ++ rows'.flatMap Mr.blocks)) ∧
    (∀ r ∈ rows, OwnB (w'.setCell ⟨bn, 0, none⟩ v') r.dv r.m.data) ∧
    Frm (· ∈ bn :: (L ++ rows.flatMap Mr.blocks)) w (w'.setCell ⟨bn, 0, none⟩ v') ∧
    (∀ k ∈ bn :: (v'.ownBlock.toList ++ rows'.flatMap Mr.blocks), k ∈ bn :: (L ++ rows.flatMap Mr.blocks) ∨ w.heap.size ≤ k) := by
  have hbn := lt_of_heap h1
  obtain ⟨hn1, hn2⟩ := List.nodup_cons.1 hnd
  have hn3 := List.nodup_append.1 hn2
  have hbl : ∀ k ∈ rows.flatMap Mr.blocks, k < w.heap.size := fun k hk => by
    obtain ⟨x, hx, hk⟩ := List.mem_flatMap.1 hk
    exact (h3 x hx).lt k (by simpa [Mr.blocks] using hk)
  have hbs := sub_blocks hsub
  have fset : Frm (fun k => k = bn) w' (w'.setCell ⟨bn, 0, none⟩ v') := (Frm.refl (fun k => k = bn) w').setCell (p := ⟨bn, 0, none⟩) (fun _ => rfl) _
  have hblk : ∀ x ∈ rows, ∀ k, x.dv.ownBlock = some k → k ∈ rows.flatMap Mr.blocks := fun x hx k hk => List.mem_flatMap.2 ⟨x, hx, by simp [Mr.blocks, hk]⟩
  have hkeep : ∀ x ∈ rows, OwnB (w'.setCell ⟨bn, 0, none⟩ v') x.dv x.m.data := fun x hx => ((h3 x hx).keepG g).keep fset (fun k hk e => hn1 (by rw [← e]; exact List.mem_append.2 (.inr (hblk x hx k hk))))
  refine ⟨⟨v', rows', ?_, hown.keep fset (fun k hk e => by have := hfr k hk; omega), fun x hx => hkeep x (hsub.mem hx), rfl, rfl, ?_, ?_, ?_⟩, hkeep, Grew.trans g (fset.mono (fun k _ e => by simp [e])), fun k hk => ?_⟩
  · rw [heap_setCell_eq (g.keepG h1)]; rfl
  · refine List.nodup_cons.2 ⟨fun hm => ?_, List.nodup_append.2 ⟨by cases v'.ownBlock <;> simp, hn3.2.1.sublist hbs, fun a ha b hb e => ?_⟩⟩
    · rcases List.mem_append.1 hm with hm | hm
      · have := hfr bn (by simpa using hm); omega
      · exact hn1 (List.mem_append.2 (.inr (hbs.mem hm)))
    · subst e
      have h1 := hfr a (by simpa using ha)
      have h2 := hbl a (hbs.mem hb)
      omega
  · rw [List.length_map]; exact Nat.le_trans hsub.length_le hlen
  · intro m hm
    obtain ⟨x, hx, rfl⟩ := List.mem_map.1 hm
    exact hdat x (hsub.mem hx)
  · simp only [List.mem_cons, List.mem_append, Option.mem_toList] at hk ⊢
    rcases hk with h | h | h
    · exact .inl (.inl h)
    · exact .inr (hfr k h)
    · exact .inl (.inr (.inr (hbs.mem h)))

set_option maxRecDepth 100000 in
set_option maxHeartbeats 4000000 in
theorem rnGive_none (w : World) (bn : Nat) (S : List Nat) (h : NetAt 33 w bn [] S) (pick : Int) :
    Calls Try.prog 11 #[.pointer (some ⟨bn, 0, none⟩), .int .i64 pick] w (GivePost 33 w bn S [] pick) := by
  obtain ⟨v, rows, h1, h2, h3, hr, rfl, hnd, hlen, hdat⟩ := h
  obtain rfl : rows = [] := by cases rows; rfl; cases hr
  obtain ⟨va, vc, rfl, k1, k2, k3⟩ := h2.rd.shape
  clear hr
  have c1 : w.cell? ⟨bn, 0, none⟩ = some (.slice va 0 vc) := cell_is h1 0 _ rfl
  have l1 := lt_of_heap h1
  go_enter Try.func11, Try.ntmps11
  go_wp2_with fail
  refine bodyPost_ret (v := .tuple #[.agg #[.int .i64 0, .int .i64 0, .slice none 0 0], .bool false]) (by simp [results, Try.results11, go_sem]) rfl ?_
  unfold GivePost
  rw [if_neg (by simp)]
  exact ⟨rfl, grew_alloc w _⟩

theorem run_max (w : World) (ty : TypeId) (pick : Int) : (Builtin.max_ #[3, 3] ty #[.int .i64 0, .int .i64 pick]).run Try.prog w = .ok (.int .i64 (max 0 pick)) w := by
  have e : max 0 pick = if pick > 0 then pick else 0 := by
    rcases Int.lt_or_le 0 pick with h | h
    · rw [if_pos h, Int.max_eq_right (by omega)]
    · rw [if_neg (by omega), Int.max_eq_left h]
  rw [e]
  simp [Builtin.max_, Builtin.max2]
theorem wp_max {w : World} {o : Oper} {a : Act} {K : Act → World → Prop} {Q : Exit → Act → World → Prop} (x : Operand)
    (ho : o.op = .call { callee := .builtin .max, args := #[.const (.int .i64 0), x], argTypes := #[3, 3] }) (pick : Int) (hx : a.eval x = .int .i64 pick)
    (h : K (a.put o.dst (.int .i64 (max 0 pick))) w) : o.wp Try.prog a w K Q := by
  unfold Oper.wp execOp
  have hc : a.eval (.const (.int .i64 0)) = .int .i64 0 := rfl
  simp only [ho, resolve, invoke, builtin, Sem.run_bind, Sem.run_pure, Result.andThen_ok, List.map_toArray, List.map_cons, List.map_nil, hx, hc, run_max]
  exact h
theorem wpList_max {w : World} {ops : Array Oper} {rest : List Oper} {o : Oper} {a : Act} {Q : Exit → Act → World → Prop} (hgd : o.guard = none) (x : Operand)
    (ho : o.op = .call { callee := .builtin .max, args := #[.const (.int .i64 0), x], argTypes := #[3, 3] }) (pick : Int) (hx : a.eval x = .int .i64 pick)
    (h : ∀ mx : Int, mx = max 0 pick → wpList Try.prog ops Q rest (a.put o.dst (.int .i64 mx)) w) : wpList Try.prog ops Q (o :: rest) a w :=
  wpList_plain hgd fun _ hK => wp_max x ho pick hx (hK _ _ (h _ rfl))
theorem step_max {w : World} {ops : Array Oper} {o : Oper} {a : Act} {K : Act → World → Prop} {Q : Exit → Act → World → Prop} {E : Prop} (hgd : o.guard = none) (x : Operand)
    (ho : o.op = .call { callee := .builtin .max, args := #[.const (.int .i64 0), x], argTypes := #[3, 3] }) (pick : Int) (hx : a.eval x = .int .i64 pick)
    (h : K (a.put o.dst (.int .i64 (max 0 pick))) w) : if Region.wanted o (yielded ops a.tmps) = true then o.wp Try.prog a w K Q else E := by
  rw [if_pos (by simp [Region.wanted, hgd])]
  exact wp_max x ho pick hx h

def TakeAt (T : TypeId) (w : World) (bn : Nat) (S : List Nat) (l : List Mg) (k : Nat) (e : Ending) (w' : World) : Prop :=
  ∃ (hk : k < l.length) (S' : List Nat) (dv : Value), e = .returned (.tuple #[.agg #[.int .i64 l[k].frm, .int .i64 l[k].to, dv], .bool true]) ∧ NetAt T w' bn (l.eraseIdx k) S' ∧ OwnB w' dv l[k].data ∧ Frm (· ∈ S) w w' ∧
    (∀ j ∈ S', j ∈ S ∨ w.heap.size ≤ j) ∧ ∀ j, dv.ownBlock = some j → j ∈ S ∧ j ∉ S'

theorem rgive_end {w w1 w3 : World} {bn k : Nat} {v0 v' dv : Value} {L : List Nat} {rows : List Mr} (hk : k < rows.length)
    (h1 : w.heap[bn]? = some (.cells #[v0] 33 (0, 0))) (h3 : ∀ r ∈ rows, OwnB w r.dv r.m.data) (hnd : (bn :: (L ++ rows.flatMap Mr.blocks)).Nodup) (hlen : rows.length ≤ 1024) (hdat : ∀ m ∈ rows.map (·.m), m.data.length ≤ 1048576)
    (f1 : Grew w w1) (gF : Grew w1 w3) (hown : Row w3 v' (rows.eraseIdx k)) (hfr : ∀ j, v'.ownBlock = some j → w1.heap.size ≤ j) (hz : w.heap.size + 1 < w1.heap.size) (hdv : rows[k].dv = dv) :
    ∀ W : World, Frm (fun j => j = w.heap.size) (w3.setCell ⟨bn, 0, none⟩ v') W →
    TakeAt 33 w bn (bn :: (L ++ rows.flatMap Mr.blocks)) (rows.map (·.m)) k (.returned (.tuple #[.agg #[.int .i64 rows[k].m.frm, .int .i64 rows[k].m.to, dv], .bool true])) W := by
  subst hdv
  intro W hW
  have f1s := f1.size
  have hsub : (rows.eraseIdx k).Sublist rows := List.eraseIdx_sublist rows k
  obtain ⟨n1, n2, n3, n4⟩ := net_new (T := 33) hsub h1 h3 hnd hlen (fun r hr => hdat r.m (List.mem_map.2 ⟨r, hr, rfl⟩)) (Grew.trans f1 gF) hown (fun j hj => Nat.le_trans f1s (hfr j hj))
  obtain ⟨d1, d2, d3⟩ := drop_blocks hnd hk
  have hbn := lt_of_heap h1
  have hbl : ∀ x ∈ rows, ∀ j, x.dv.ownBlock = some j → j < w.heap.size := fun x hx j hj => (h3 x hx).lt j hj
  have hbe : ∀ j ∈ (rows.eraseIdx k).flatMap Mr.blocks, j < w.heap.size := fun j hj => by
    obtain ⟨x, hx, hj⟩ := List.mem_flatMap.1 hj
    exact hbl x (hsub.mem hx) j (by simpa [Mr.blocks] using hj)
  refine ⟨by simpa using hk, bn :: (v'.ownBlock.toList ++ (rows.eraseIdx k).flatMap Mr.blocks), rows[k].dv, by simp, ?_, ?_, ?_, n4, fun j hj => ⟨(d3 j hj).1, fun hm => ?_⟩⟩
  · rw [erase_map]
    refine n1.keep hW (fun j hj e => ?_)
    subst e
    simp only [List.mem_cons, List.mem_append, Option.mem_toList] at hj
    rcases hj with h | h | h
    · omega
    · have := hfr _ h; omega
    · have := hbe _ h; omega
  · simp only [List.getElem_map]
    exact (n2 _ (List.getElem_mem hk)).keep hW (fun j hj e => by have := hbl _ (List.getElem_mem hk) j hj; omega)
  · exact n3.trans hW (fun j hj e => by omega)
  · simp only [List.mem_cons, List.mem_append, Option.mem_toList] at hm
    have hjl := hbl _ (List.getElem_mem hk) j hj
    rcases hm with h | h | h
    · exact (d3 j hj).2 (by simp [h])
    · have := hfr _ h; omega
    · exact (d3 j hj).2 (List.mem_cons_of_mem _ (List.mem_append.2 (.inr h)))

set_option maxRecDepth 100000 in
set_option maxHeartbeats 4000000 in
theorem rnGive_at (w : World) (bn : Nat) (l : List Mg) (S : List Nat) (h : NetAt 33 w bn l S) (k : Nat) (hk : k < l.length) (pick : Int) (hpk : (max 0 pick) % (l.length : Int) = k) :
    Calls Try.prog 11 #[.pointer (some ⟨bn, 0, none⟩), .int .i64 pick] w (TakeAt 33 w bn S l k) := by
  obtain ⟨v, rows, h1, h2, h3, rfl, rfl, hnd, hlen, hdat⟩ := h
  rw [List.length_map] at hk hlen hpk
  obtain ⟨va, vc, rfl, k1, k2, k3⟩ := h2.rd.shape
  unfold maxLen at k2 k3
  obtain ⟨g, rfl⟩ : ∃ g, va = some ⟨g, 0, none⟩ := by
    rcases h2.2 with ⟨h, h'⟩ | ⟨g, cap, c, h, _⟩
    · omega
    · cases h; exact ⟨g, rfl⟩
  obtain ⟨e0, e1, e2⟩ := row_cells h2.rd hk rfl
  obtain ⟨da, dc, hdv, _, _, _⟩ := (h3 _ (List.getElem_mem hk)).rd.shape
  rw [hdv] at e2
  have c1 : w.cell? ⟨bn, 0, none⟩ = some (.slice (some ⟨g, 0, none⟩) rows.length vc) := cell_is h1 0 _ rfl
  have l1 := lt_of_heap h1
  have l3 : g < w.heap.size := h2.lt g rfl
  have hz : ((rows.length : Int) == 0) = false := beq_eq_false_iff_ne.2 (by omega)
  have hlp : (0 : Int) < (rows.length : Int) := by omega
  have hgb : g ≠ bn := fun e => (List.nodup_cons.1 hnd).1 (by simp [Value.ownBlock, e])
  have i1 : (0 : Int) ≤ (k : Int) := Int.natCast_nonneg _
  have i2 : (k : Int) < (rows.length : Int) := by omega
  go_enter Try.func11, Try.ntmps11
  go_wp2_with
    (refine wpList_max rfl _ rfl pick rfl ?_
     intro mx hmx
     rw [← hmx] at hpk
     have hm0 : 0 ≤ mx := by omega
     clear hmx)
  rw [hpk]
  generalize hw1 : World.alloc (World.alloc w _) _ = w1
  have f1 : Grew w w1 := hw1 ▸ (grew_alloc w _).alloc _
  have hb4 : w1.heap[w.heap.size]? = some (.cells #[.int .i64 0, .int .i64 0, .slice none 0 0] 25 (0, 0)) := by
    rw [← hw1]; exact (grew_alloc _ _).keepG (heap_alloc_new' w _)
  have hb7 : w1.heap[w.heap.size + 1]? = some (.cells #[.int .i64 rows[k].m.frm, .int .i64 rows[k].m.to, .slice da rows[k].m.data.length dc] 25 (0, 0)) := by
    have h := heap_alloc_new' (w.alloc (.cells #[.int .i64 0, .int .i64 0, .slice none 0 0] 25)) (.cells #[.int .i64 rows[k].m.frm, .int .i64 rows[k].m.to, .slice da rows[k].m.data.length dc] 25)
    simp only [World.size_alloc] at h
    rw [← hw1]; exact h
  clear hw1 c1 e0 e1 e2 hpk hm0 hz
  have g1 := f1.keepG h1
  have g2 := h2.keepG f1
  have c1 : w1.drew.cell? ⟨bn, 0, none⟩ = some (.slice (some ⟨g, 0, none⟩) rows.length vc) := cell_is g1 0 _ rfl
  have c2 : w1.cell? ⟨bn, 0, none⟩ = some (.slice (some ⟨g, 0, none⟩) rows.length vc) := cell_is g1 0 _ rfl
  have l5 := lt_of_heap g1
  have gD : Grew w1 (w1.drew.alloc (.cells #[] 25)) := ((Frm.refl _ w1).drew).alloc _
  have hk1 : IntKind.i64.wrap ((k : Int) + 1) = (k : Int) + 1 := by rw [IntKind.wrap_i64]; omega
  have hone := cellsOf_one h3
  have hone1 : ∀ u ∈ cellsOf (rows.take k), u.oneCell' = true := fun u hu => hone u (by rw [cellsOf_take rows k (by omega)] at hu; exact List.mem_of_mem_take hu)
  have hone2 : ∀ u ∈ cellsOf (rows.drop (k + 1)), u.oneCell' = true := fun u hu => hone u (by rw [cellsOf_drop rows (k + 1) hk] at hu; exact List.mem_of_mem_drop hu)
  have hcut := row_cut g2 (Nat.le_of_lt hk)
  have hL1 : (rows.take k).length = k := by simp; omega
  have hL2 : (rows.drop (k + 1)).length = rows.length - (k + 1) := by simp
  have hcut2 : RowR w1 (.slice (some ⟨g, 0, none⟩) k vc) (rows.take k) := hcut.rd
  have Hone1 := Lib.hid hone1
  have Hone2 := Lib.hid hone2
  have Hcut := Lib.hid hcut2
  have H3 := Lib.hid h3
  have HL1 := Lib.hid hL1
  have HL2 := Lib.hid hL2
  have Hdv := Lib.hid hdv
  have hic : k ≤ vc := by omega
  have hic1 : k + 1 ≤ vc := by omega
  have hin : k + 1 ≤ rows.length := by omega
  have hij : (k : Int) ≤ (rows.length : Int) := by omega
  have hik : (k : Int) ≤ (k : Int) + 1 := by omega
  have hj1 : (0 : Int) ≤ (k : Int) + 1 := by omega
  have hj2 : (k : Int) + 1 ≤ (rows.length : Int) := by omega
  have hN : (rows.take k ++ rows.drop (k + 1)).length = rows.length - 1 := by simp; omega
  have HN := Lib.hid hN
  clear hN
  have hb4' := Lib.hid (And.intro hb4 hb7)
  clear hone hone1 hone2 hcut hcut2 h3 hL1 hL2 hdv hb4 hb7
  by_cases hc : vc = k + 1
  · have hend := row_end (A := some ⟨g, 0, none⟩) g2 hk (by rw [if_pos hc])
    subst hc
    rw [Nat.sub_self] at hend
    have Hend := Lib.hid hend
    have G2 := Lib.hid g2
    clear hend g2
    go_region_law (first
      | (refine step_appendM (.slice (some ⟨w1.heap.size, 0, none⟩) 0 0) (.slice (some ⟨g, 0, none⟩) k (k + 1)) [] (rows.take k) rfl _ _ rfl (by simp [Act.eval, Act.put]) (by simp [Act.eval, Act.put] <;> omega) (Row.made w1.drew) (Hcut.out.keepG gD) Hone1.out (by rw [HL1.out]; simp; omega) ?_
         intro v1 w2 p1 p2 p3 p4
         have gE : Grew w1 w2 := Frm.trans gD p2 (fun j hj e => by have := Option.some.inj e; simp only at this; omega)
         have fr1 : ∀ j, v1.ownBlock = some j → w1.heap.size ≤ j := fun j hj => by
           rcases p3 with h | h <;> rw [h] at hj
           · have := Option.some.inj hj; simp only at this; omega
           · have := Option.some.inj hj; simp at this; omega
         have c3 : w2.cell? ⟨bn, 0, none⟩ = some (.slice (some ⟨g, 0, none⟩) rows.length (k + 1)) := gE.cellG c2)
      | (refine step_appendM v1 (.slice (some ⟨g, 0, none⟩) (rows.length - (k + 1)) (0)) (rows.take k) (rows.drop (k + 1)) rfl _ _ rfl (by simp [Act.eval, Act.put]) (by simp [Act.eval, Act.put] <;> omega) (by simpa using p1) ((by have h := Hend.out; exact h : RowR w1 _ _).keepG gE) Hone2.out (by rw [HL1.out, HL2.out]; omega) ?_
         intro v3 w3 q1 q2 q3 q4
         obtain ⟨ra, rc, hv3, _, _, _⟩ := q1.rd.shape
         rw [HN.out] at hv3
         subst hv3
         have gF : Grew w1 w3 := Frm.trans gE q2 (fun j hj e => by have := fr1 j e; omega)
         have fr3 : ∀ j, (Value.slice ra (rows.length - 1) rc).ownBlock = some j → w1.heap.size ≤ j := fun j hj => by
           rcases q3 with h | h <;> rw [h] at hj
           · exact fr1 j hj
           · have := Option.some.inj hj; have := gE.size; omega
         have c4 : w3.cell? ⟨bn, 0, none⟩ = some (.slice (some ⟨g, 0, none⟩) rows.length (k + 1)) := gF.cellG c2
         have f4 := frozen_of (gF.keepG g1) 0))
    all_goals
      have d4 := gF.keepG hb4'.out.1
      have d7 := gF.keepG hb4'.out.2
      have x0 : w3.cell? ⟨w.heap.size + 1, 0, none⟩ = some (.int .i64 rows[k].m.frm) := cell_is d7 0 _ rfl
      have x1 : w3.cell? ⟨w.heap.size + 1, 1, none⟩ = some (.int .i64 rows[k].m.to) := cell_is d7 1 _ rfl
      have x2 : w3.cell? ⟨w.heap.size + 1, 2, none⟩ = some (.slice da rows[k].m.data.length dc) := cell_is d7 2 _ rfl
      have y0 : w3.cell? ⟨w.heap.size, 0, none⟩ = some (.int .i64 0) := cell_is d4 0 _ rfl
      have y1 : w3.cell? ⟨w.heap.size, 1, none⟩ = some (.int .i64 0) := cell_is d4 1 _ rfl
      have y2 : w3.cell? ⟨w.heap.size, 2, none⟩ = some (.slice none 0 0) := cell_is d4 2 _ rfl
      have yf := frozen_of d4
      have n1 : w.heap.size ≠ bn := by omega
      have n2 : w.heap.size + 1 ≠ bn := by omega
      have n3 : bn ≠ w.heap.size := by omega
      have hrow : Row w3 (.slice ra (rows.length - 1) rc) (rows.eraseIdx k) := by
        rw [List.eraseIdx_eq_take_drop_succ]; exact q1
      have hz3 := gF.size
      have HR := Lib.hid hrow
      clear q1 q2 q3 q4 p1 p2 p3 p4 hrow d4 d7
      have hend := rgive_end (w1 := w1) hk h1 H3.out hnd hlen hdat f1 gF HR.out (fun j hj => fr3 j hj) (lt_of_heap hb4'.out.2) Hdv.out
      have Hend2 := Lib.hid hend
      clear hend
      go_wp2_with fail
      refine bodyPost_ret (v := .tuple #[.agg #[.int .i64 rows[k].m.frm, .int .i64 rows[k].m.to, .slice da rows[k].m.data.length dc], .bool true]) (by simp [results, Try.results11, go_sem, y0, y1, y2]) rfl ?_
      exact Hend2.out _ ((((Frm.refl (fun j => j = w.heap.size) (w3.setCell ⟨bn, 0, none⟩ (.slice ra (rows.length - 1) rc))).setCell (p := ⟨w.heap.size, 0, none⟩) (fun _ => rfl) _).setCell (p := ⟨w.heap.size, 1, none⟩) (fun _ => rfl) _).setCell (p := ⟨w.heap.size, 2, none⟩) (fun _ => rfl) _)
  · have hend := row_end (A := some ⟨g, (k + 1) * 3, none⟩) g2 hk (by rw [if_neg hc])
    have Hend := Lib.hid hend
    have G2 := Lib.hid g2
    clear hend g2
    go_region_law (first
      | (refine step_appendM (.slice (some ⟨w1.heap.size, 0, none⟩) 0 0) (.slice (some ⟨g, 0, none⟩) k (vc)) [] (rows.take k) rfl _ _ rfl (by simp [Act.eval, Act.put]) (by simp [Act.eval, Act.put] <;> omega) (Row.made w1.drew) (Hcut.out.keepG gD) Hone1.out (by rw [HL1.out]; simp; omega) ?_
         intro v1 w2 p1 p2 p3 p4
         have gE : Grew w1 w2 := Frm.trans gD p2 (fun j hj e => by have := Option.some.inj e; simp only at this; omega)
         have fr1 : ∀ j, v1.ownBlock = some j → w1.heap.size ≤ j := fun j hj => by
           rcases p3 with h | h <;> rw [h] at hj
           · have := Option.some.inj hj; simp only at this; omega
           · have := Option.some.inj hj; simp at this; omega
         have c3 : w2.cell? ⟨bn, 0, none⟩ = some (.slice (some ⟨g, 0, none⟩) rows.length (vc)) := gE.cellG c2)
      | (refine step_appendM v1 (.slice (some ⟨g, (k + 1) * 3, none⟩) (rows.length - (k + 1)) (vc - (k + 1))) (rows.take k) (rows.drop (k + 1)) rfl _ _ rfl (by simp [Act.eval, Act.put]) (by simp [Act.eval, Act.put] <;> omega) (by simpa using p1) ((by have h := Hend.out; exact h : RowR w1 _ _).keepG gE) Hone2.out (by rw [HL1.out, HL2.out]; omega) ?_
         intro v3 w3 q1 q2 q3 q4
         obtain ⟨ra, rc, hv3, _, _, _⟩ := q1.rd.shape
         rw [HN.out] at hv3
         subst hv3
         have gF : Grew w1 w3 := Frm.trans gE q2 (fun j hj e => by have := fr1 j e; omega)
         have fr3 : ∀ j, (Value.slice ra (rows.length - 1) rc).ownBlock = some j → w1.heap.size ≤ j := fun j hj => by
           rcases q3 with h | h <;> rw [h] at hj
           · exact fr1 j hj
           · have := Option.some.inj hj; have := gE.size; omega
         have c4 : w3.cell? ⟨bn, 0, none⟩ = some (.slice (some ⟨g, 0, none⟩) rows.length (vc)) := gF.cellG c2
         have f4 := frozen_of (gF.keepG g1) 0))
    all_goals
      have d4 := gF.keepG hb4'.out.1
      have d7 := gF.keepG hb4'.out.2
      have x0 : w3.cell? ⟨w.heap.size + 1, 0, none⟩ = some (.int .i64 rows[k].m.frm) := cell_is d7 0 _ rfl
      have x1 : w3.cell? ⟨w.heap.size + 1, 1, none⟩ = some (.int .i64 rows[k].m.to) := cell_is d7 1 _ rfl
      have x2 : w3.cell? ⟨w.heap.size + 1, 2, none⟩ = some (.slice da rows[k].m.data.length dc) := cell_is d7 2 _ rfl
      have y0 : w3.cell? ⟨w.heap.size, 0, none⟩ = some (.int .i64 0) := cell_is d4 0 _ rfl
      have y1 : w3.cell? ⟨w.heap.size, 1, none⟩ = some (.int .i64 0) := cell_is d4 1 _ rfl
      have y2 : w3.cell? ⟨w.heap.size, 2, none⟩ = some (.slice none 0 0) := cell_is d4 2 _ rfl
      have yf := frozen_of d4
      have n1 : w.heap.size ≠ bn := by omega
      have n2 : w.heap.size + 1 ≠ bn := by omega
      have n3 : bn ≠ w.heap.size := by omega
      have hrow : Row w3 (.slice ra (rows.length - 1) rc) (rows.eraseIdx k) := by
        rw [List.eraseIdx_eq_take_drop_succ]; exact q1
      have hz3 := gF.size
      have HR := Lib.hid hrow
      clear q1 q2 q3 q4 p1 p2 p3 p4 hrow d4 d7
      have hend := rgive_end (w1 := w1) hk h1 H3.out hnd hlen hdat f1 gF HR.out (fun j hj => fr3 j hj) (lt_of_heap hb4'.out.2) Hdv.out
      have Hend2 := Lib.hid hend
      clear hend
      go_wp2_with fail
      refine bodyPost_ret (v := .tuple #[.agg #[.int .i64 rows[k].m.frm, .int .i64 rows[k].m.to, .slice da rows[k].m.data.length dc], .bool true]) (by simp [results, Try.results11, go_sem, y0, y1, y2]) rfl ?_
      exact Hend2.out _ ((((Frm.refl (fun j => j = w.heap.size) (w3.setCell ⟨bn, 0, none⟩ (.slice ra (rows.length - 1) rc))).setCell (p := ⟨w.heap.size, 0, none⟩) (fun _ => rfl) _).setCell (p := ⟨w.heap.size, 1, none⟩) (fun _ => rfl) _).setCell (p := ⟨w.heap.size, 2, none⟩) (fun _ => rfl) _)

theorem rnGive_spec (w : World) (bn : Nat) (l : List Mg) (S : List Nat) (h : NetAt 33 w bn l S) (pick : Int) :
    Calls Try.prog 11 #[.pointer (some ⟨bn, 0, none⟩), .int .i64 pick] w (GivePost 33 w bn S l pick) := by
  by_cases hl : 0 < l.length
  · refine (rnGive_at w bn l S h (pickAt l pick) (pickAt_lt pick hl) pick (pickAt_int pick hl)).mono ?_
    intro e w' hp
    unfold GivePost
    rw [if_pos hl]
    exact hp
  · obtain rfl : l = [] := List.eq_nil_of_length_eq_zero (by omega)
    exact rnGive_none w bn S h pick
end Go.Proofs.Ytccknjnbpccmhaa
