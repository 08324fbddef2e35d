/- The closures of Late and Twice. -/
import Derived.Test.YtccknjnbpccmhaaD1
namespace Go.Proofs.Ytccknjnbpccmhaa
open Go.RowKit

theorem drop_blocks {bn i : Nat} {L : List Nat} {rows : List Mr} (hnd : (bn :: (L ++ rows.flatMap Mr.blocks)).Nodup) (hi : i < rows.length) :
    (bn :: (L ++ (rows.eraseIdx i).flatMap Mr.blocks)).Nodup ∧ (∀ k ∈ bn :: (L ++ (rows.eraseIdx i).flatMap Mr.blocks), k ∈ bn :: (L ++ rows.flatMap Mr.blocks)) ∧
      ∀ k, rows[i].dv.ownBlock = some k → k ∈ bn :: (L ++ rows.flatMap Mr.blocks) ∧ k ∉ bn :: (L ++ (rows.eraseIdx i).flatMap Mr.blocks) := by
  have hp := erase_blocks hi
  have hp2 : (bn :: (L ++ rows.flatMap Mr.blocks)).Perm (rows[i].blocks ++ (bn :: (L ++ (rows.eraseIdx i).flatMap Mr.blocks))) := by
    refine ((hp.append_left _).cons bn).trans ?_
    have : (bn :: (L ++ (rows[i].blocks ++ (rows.eraseIdx i).flatMap Mr.blocks))) = (bn :: L) ++ (rows[i].blocks ++ (rows.eraseIdx i).flatMap Mr.blocks) := rfl
    rw [this]
    exact List.perm_append_comm_assoc _ _ _
  have hnd2 := List.nodup_append.1 (hp2.nodup_iff.1 hnd)
  refine ⟨hnd2.2.1, fun k hk => hp2.mem_iff.2 (List.mem_append.2 (.inr hk)), fun k hk => ⟨hp2.mem_iff.2 (List.mem_append.2 (.inl (by simp [Mr.blocks, hk]))), fun hm => hnd2.2.2 k (by simp [Mr.blocks, hk]) k hm rfl⟩⟩

theorem late_end {w w1 W w2 W3 w3 : World} {bn g k cap : Nat} {v0 v' dv : Value} {rows : List Mr} (hk : k < rows.length)
    (h3 : ∀ r ∈ rows, OwnB w r.dv r.m.data) (hnd : (bn :: ((some g).toList ++ rows.flatMap Mr.blocks)).Nodup) (hlen : rows.length ≤ 1024) (hdat : ∀ m ∈ rows.map (·.m), m.data.length ≤ 1048576)
    (f1 : Grew w w1) (gW : Grew w1 W) (f2 : Frm (fun k => k = g) W w2) (q2 : w2.heap[bn]? = some (.cells #[v0] 47 (0, 0))) (g3 : Grew w2 W3) (a4 : OwnB w2 dv rows[k].m.data) (hdv : rows[k].dv = dv)
    (hown : Row w3 v' (rows.eraseIdx k ++ [⟨dv, rows[k].m⟩])) (f3 : Frm (fun k => (Value.slice (some ⟨g, 0, none⟩) (rows.length - 1) cap).ownBlock = some k) W3 w3)
    (hv : v'.ownBlock = (Value.slice (some ⟨g, 0, none⟩) (rows.length - 1) cap).ownBlock ∨ v'.ownBlock = some W3.heap.size) :
    NetPost 47 w bn (bn :: ((some g).toList ++ rows.flatMap Mr.blocks)) (.bool true) ((rows.map (·.m)).eraseIdx k ++ [rows[k].m]) (.returned (.bool true)) (w3.setCell ⟨bn, 0, none⟩ v') := by
  subst hdv
  obtain ⟨d1, d2, d3⟩ := drop_blocks hnd hk
  have hsub : ∀ x ∈ rows.eraseIdx k, x ∈ rows := fun x hx => List.mem_of_mem_eraseIdx hx
  have hel : (rows.eraseIdx k).length = rows.length - 1 := List.length_eraseIdx_of_lt hk
  have hg : ∀ x ∈ rows, ∀ j, x.dv.ownBlock = some j → j ≠ g := fun x hx j hj e => by
    have h := (List.nodup_append.1 (List.nodup_cons.1 hnd).2).2.2 g (by simp) j (List.mem_flatMap.2 ⟨x, hx, by simp [Mr.blocks, hj]⟩)
    exact h e.symm
  obtain ⟨S', n1, n2, n3⟩ := net_push (r := rows[k]) (v := .slice (some ⟨g, 0, none⟩) (rows.length - 1) cap) q2 (fun x hx => ((h3 x (hsub x hx)).keepG (Grew.trans f1 gW)).keep f2 (fun j hj e => hg x (hsub x hx) j hj e)) d1 (by rw [hel]; omega)
    (fun x hx => hdat x.m (List.mem_map.2 ⟨x, hsub x hx, rfl⟩)) (hdat _ (List.mem_map.2 ⟨_, List.getElem_mem hk, rfl⟩)) g3 (a4.keepG g3) (fun j hj => (d3 j hj).2) hown f3 hv
  refine ⟨S', rfl, ?_, ?_, fun j hj => ?_⟩
  · rw [erase_map]; simpa using n1
  · refine Grew.trans (Grew.trans f1 gW) ((f2.mono (fun j _ e => by simp [e])).trans (n2.mono (fun j _ hj => d2 j hj)) (fun _ _ h => h))
  · rcases n3 j hj with h | h | h
    · exact .inl (d2 j h)
    · exact .inl (d3 j h).1
    · have := (Grew.trans f1 gW).size
      have := f2.size
      exact .inr (by omega)

theorem Row.keepX {w : World} {v : Value} {rows : List Mr} (h : Row w.drew v rows) (o : Obj) : Row (w.alloc o).drew v rows :=
  ((h.of_eq (w' := w) (fun _ _ => rfl)).keepG (grew_alloc w o)).of_eq (fun _ _ => rfl)

set_option maxRecDepth 100000 in
set_option maxHeartbeats 2000000 in
theorem lateC_spec (w : World) (bn : Nat) (l : List Mg) (S : List Nat) (h : NetAt 47 w bn l S) (k : Nat) (hk : k < l.length) (b1 : Nat) (hb1 : w.heap[b1]? = some (.cells #[.pointer (some ⟨bn, 0, none⟩)] 28 (0, 0)))
    (hS1 : b1 ∉ S) :
    Calls Try.prog 28 #[.int .i64 k, .pointer (some ⟨b1, 0, none⟩)] w (NetPost 47 w bn S (.bool true) (l.eraseIdx k ++ [l[k]])) := by
  obtain ⟨v, rows, h1, h2, h3, rfl, rfl, hnd, hlen, hdat⟩ := h
  rw [List.length_map] at hk hlen
  obtain ⟨va, vc, rfl, k1, k2, k3⟩ := h2.rd.shape
  unfold maxLen at k2 k3
  obtain ⟨g, rfl⟩ : ∃ g, va = some ⟨g, 0, none⟩ := by
    rcases h2.2 with ⟨h, h'⟩ | ⟨g, cap, c, h, _⟩
    · omega
    · cases h; exact ⟨g, rfl⟩
  obtain ⟨e0, e1, e2⟩ := row_cells h2.rd hk rfl
  obtain ⟨da, dc, hdv, _, _, _⟩ := (h3 _ (List.getElem_mem hk)).rd.shape
  rw [hdv] at e2
  have c1 : w.cell? ⟨b1, 0, none⟩ = some (.pointer (some ⟨bn, 0, none⟩)) := cell_is hb1 0 _ rfl
  have c2 : w.cell? ⟨bn, 0, none⟩ = some (.slice (some ⟨g, 0, none⟩) rows.length vc) := cell_is h1 0 _ rfl
  have l1 := lt_of_heap h1
  have l2 := lt_of_heap hb1
  have l3 : g < w.heap.size := h2.lt g rfl
  have hgb : g ≠ bn := fun e => (List.nodup_cons.1 hnd).1 (by simp [Value.ownBlock, e])
  have hg1 : g ≠ b1 := fun e => hS1 (by simp [Value.ownBlock, e])
  have hd4 : ∀ r ∈ rows, ∀ k, r.dv.ownBlock = some k → k ≠ g := fun r hr k hk e => by
    have hx := (List.nodup_append.1 (List.nodup_cons.1 hnd).2).2.2 g (by simp [Value.ownBlock]) k (List.mem_flatMap.2 ⟨r, hr, by simp [Mr.blocks, hk]⟩)
    exact hx e.symm
  go_enter Try.func28, Try.ntmps28
  go_wp2_with fail
  generalize hw1 : World.alloc w _ = w1
  have f1 : Grew w w1 := hw1 ▸ grew_alloc w _
  have hbm : w1.heap[w.heap.size]? = some (.cells #[.int .i64 rows[k].m.frm, .int .i64 rows[k].m.to, .slice da rows[k].m.data.length dc] 25 (0, 0)) := hw1 ▸ heap_alloc_new' w _
  have hbm0 : w.heap.size ≤ w.heap.size := Nat.le_refl _
  generalize hbme : w.heap.size = bm at hbm l1 l2 l3 hbm0 ⊢
  clear hw1 c1 c2 e0 e1 e2
  have g1 := f1.keepG h1
  have g2 := h2.keepG f1
  have gb1 := f1.keepG hb1
  have c1 : w1.drew.cell? ⟨b1, 0, none⟩ = some (.pointer (some ⟨bn, 0, none⟩)) := cell_is gb1 0 _ rfl
  have c2 : w1.drew.cell? ⟨bn, 0, none⟩ = some (.slice (some ⟨g, 0, none⟩) rows.length vc) := cell_is g1 0 _ rfl
  have c10 : w1.drew.cell? ⟨bm, 0, none⟩ = some (.int .i64 rows[k].m.frm) := cell_is hbm 0 _ rfl
  have c11 : w1.drew.cell? ⟨bm, 1, none⟩ = some (.int .i64 rows[k].m.to) := cell_is hbm 1 _ rfl
  have c12 : w1.drew.cell? ⟨bm, 2, none⟩ = some (.slice da rows[k].m.data.length dc) := cell_is hbm 2 _ rfl
  have w1c1 : w1.cell? ⟨b1, 0, none⟩ = some (.pointer (some ⟨bn, 0, none⟩)) := c1
  have w1c2 : w1.cell? ⟨bn, 0, none⟩ = some (.slice (some ⟨g, 0, none⟩) rows.length vc) := c2
  have hone := cellsOf_one h3
  have Hg2 : Hid (Row w1.drew (.slice (some ⟨g, 0, none⟩) rows.length vc) rows) := g2.of_eq (fun _ _ => rfl)
  have Hone := Lib.hid hone
  have H3 := Lib.hid h3
  have Hd4 := Lib.hid hd4
  have hel : (rows.eraseIdx k).length = rows.length - 1 := List.length_eraseIdx_of_lt hk
  have Hel := Lib.hid hel
  clear hone h3 hd4 hel
  have hk1 : IntKind.i64.wrap ((k : Int) + 1) = (k : Int) + 1 := by rw [IntKind.wrap_i64]; omega
  have m1 := lt_of_heap g1
  have m2 := lt_of_heap gb1
  have m3 := lt_of_heap hbm
  have m4 : g < w1.heap.size := g2.lt g rfl
  go_region_law (first
    | (refine step_appendM (.slice (some ⟨g, 0, none⟩) (rows.length - 1) vc) (.slice (some ⟨w2.heap.size, 0, none⟩) 1 1) (rows.eraseIdx k) [⟨.slice da rows[k].m.data.length dc, rows[k].m⟩] rfl _ _ rfl rfl rfl (a1.keepG (grew_alloc w2 _)) (Row.lit w2 ⟨.slice da rows[k].m.data.length dc, rows[k].m⟩).rd
         (cellsOf_one (w := w2) (fun r hr => by obtain rfl := List.mem_singleton.1 hr; exact a4)) (by rw [Hel.out]; simp; omega) ?_
       intro v' w3 b1' b2' b3' b4'
       obtain ⟨ra, rc, rfl, _, _, _⟩ := b1'.rd.shape
       have q3 : w3.heap[bn]? = _ := b2'.keep ((grew_alloc w2 _).keepG q2) (fun e => hgb (Option.some.inj e))
       have q4 : w3.heap[b1]? = _ := b2'.keep ((grew_alloc w2 _).keepG q1) (fun e => hg1 (Option.some.inj e))
       have d3 : w3.cell? ⟨b1, 0, none⟩ = some (.pointer (some ⟨bn, 0, none⟩)) := cell_is q4 0 _ rfl
       have d4 : w3.cell? ⟨bn, 0, none⟩ = some (.slice (some ⟨g, 0, none⟩) rows.length vc) := cell_is q3 0 _ rfl
       have d5 := frozen_of q3 0)
    | (refine step_appendM (.slice (some ⟨g, 0, none⟩) (rows.length - 1) vc) (.slice (some ⟨w1.heap.size, 0, none⟩) 1 1) (rows.eraseIdx k) [⟨.slice da rows[k].m.data.length dc, rows[k].m⟩] rfl _ _ rfl rfl rfl a1 a5
         (cellsOf_one (w := w2) (fun r hr => by obtain rfl := List.mem_singleton.1 hr; exact a4)) (by rw [Hel.out]; simp; omega) ?_
       intro v' w3 b1' b2' b3' b4'
       obtain ⟨ra, rc, rfl, _, _, _⟩ := b1'.rd.shape
       have q3 : w3.heap[bn]? = _ := b2'.keep q2 (fun e => hgb (Option.some.inj e))
       have q4 : w3.heap[b1]? = _ := b2'.keep q1 (fun e => hg1 (Option.some.inj e))
       have d3 : w3.cell? ⟨b1, 0, none⟩ = some (.pointer (some ⟨bn, 0, none⟩)) := cell_is q4 0 _ rfl
       have d4 : w3.cell? ⟨bn, 0, none⟩ = some (.slice (some ⟨g, 0, none⟩) rows.length vc) := cell_is q3 0 _ rfl
       have d5 := frozen_of q3 0)
    | (go_simp
       go_at_call 26
       (with_reducible refine (slDelete_spec _ g vc k rows Hg2.out Hone.out hk).mono ?_)
       rintro e w2 ⟨rfl, a1, a2⟩
       have q1 : w2.heap[b1]? = _ := a2.keep (w := w1.drew) gb1 (fun e => hg1 e.symm)
       have q2 : w2.heap[bn]? = _ := a2.keep (w := w1.drew) g1 (fun e => hgb e.symm)
       have q5 : w2.heap[bm]? = _ := a2.keep (w := w1.drew) hbm (by omega)
       have a4 : OwnB w2 (.slice da rows[k].m.data.length dc) rows[k].m.data := by
         rw [← hdv]
         exact Own.keep (w := w1.drew) (((H3.out _ (List.getElem_mem hk)).keepG f1).of_eq (fun _ _ => rfl)) a2 (fun k' hk' e => Hd4.out _ (List.getElem_mem hk) k' hk' e)
       have c3 : w2.cell? ⟨b1, 0, none⟩ = some (.pointer (some ⟨bn, 0, none⟩)) := cell_is q1 0 _ rfl
       have c4 : w2.cell? ⟨bn, 0, none⟩ = some (.slice (some ⟨g, 0, none⟩) rows.length vc) := cell_is q2 0 _ rfl
       have c13 : w2.cell? ⟨bm, 0, none⟩ = some (.int .i64 rows[k].m.frm) := cell_is q5 0 _ rfl
       have c14 : w2.cell? ⟨bm, 1, none⟩ = some (.int .i64 rows[k].m.to) := cell_is q5 1 _ rfl
       have c15 : w2.cell? ⟨bm, 2, none⟩ = some (.slice da rows[k].m.data.length dc) := cell_is q5 2 _ rfl
       have l4 := lt_of_heap q1
       have l5 := lt_of_heap q2
       have l6 := lt_of_heap q5)
    | (go_simp
       go_at_call 26
       (with_reducible refine (slDelete_spec _ g vc k rows (Row.keepX Hg2.out _) Hone.out hk).mono ?_)
       rintro e w2 ⟨rfl, a1, a2⟩
       have q1 : w2.heap[b1]? = _ := a2.keep (w := (w1.alloc _).drew) ((grew_alloc w1 _).keepG gb1) (fun e => hg1 e.symm)
       have q2 : w2.heap[bn]? = _ := a2.keep (w := (w1.alloc _).drew) ((grew_alloc w1 _).keepG g1) (fun e => hgb e.symm)
       have q5 : w2.heap[bm]? = _ := a2.keep (w := (w1.alloc _).drew) ((grew_alloc w1 _).keepG hbm) (by omega)
       have a4 : OwnB w2 (.slice da rows[k].m.data.length dc) rows[k].m.data := by
         rw [← hdv]
         exact Own.keep (w := (w1.alloc _).drew) ((((H3.out _ (List.getElem_mem hk)).keepG f1).keepG (grew_alloc w1 _)).of_eq (fun _ _ => rfl)) a2 (fun k' hk' e => Hd4.out _ (List.getElem_mem hk) k' hk' e)
       have c3 : w2.cell? ⟨b1, 0, none⟩ = some (.pointer (some ⟨bn, 0, none⟩)) := cell_is q1 0 _ rfl
       have c4 : w2.cell? ⟨bn, 0, none⟩ = some (.slice (some ⟨g, 0, none⟩) rows.length vc) := cell_is q2 0 _ rfl
       have c13 : w2.cell? ⟨bm, 0, none⟩ = some (.int .i64 rows[k].m.frm) := cell_is q5 0 _ rfl
       have c14 : w2.cell? ⟨bm, 1, none⟩ = some (.int .i64 rows[k].m.to) := cell_is q5 1 _ rfl
       have c15 : w2.cell? ⟨bm, 2, none⟩ = some (.slice da rows[k].m.data.length dc) := cell_is q5 2 _ rfl
       have a5 : RowR w2 (.slice (some ⟨w1.heap.size, 0, none⟩) 1 1) [⟨.slice da rows[k].m.data.length dc, rows[k].m⟩] := Rd.keep (w := (w1.alloc _).drew) ((Row.lit w1 ⟨.slice da rows[k].m.data.length dc, rows[k].m⟩).rd.of_eq (fun _ _ => rfl)) a2 (fun k' hk' e => by have h := Option.some.inj ((rdBlock_pos (a := ⟨w1.heap.size, 0, none⟩) (n := 1) (cap := 1) (by omega)).symm.trans hk'); simp only at h; omega)
       have l4 := lt_of_heap q1
       have l5 := lt_of_heap q2
       have l6 := lt_of_heap q5))
  all_goals go_wp2_with fail
  all_goals go_ret
  all_goals first
    | (have hN := late_end (W := w1.drew) hk H3.out hnd hlen hdat f1 ((Frm.refl _ w1).drew) a2 q2 (grew_alloc w2 _) a4 hdv b1' b2' b3'
       simpa [Value.ownBlock] using hN)
    | (have hN := late_end (W := (w1.alloc _).drew) hk H3.out hnd hlen hdat f1 ((grew_alloc w1 _).drew) a2 q2 (Frm.refl _ w2) a4 hdv b1' b2' b3'
       simpa [Value.ownBlock] using hN)
end Go.Proofs.Ytccknjnbpccmhaa
