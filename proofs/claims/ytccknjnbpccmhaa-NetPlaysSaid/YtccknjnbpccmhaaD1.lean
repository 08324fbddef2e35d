/- A message is taken out; the closures of Give, Twice, Late. -/
import Derived.Test.YtccknjnbpccmhaaC1
namespace Go.Proofs.Ytccknjnbpccmhaa
open Go.RowKit

theorem row_cells {w : World} {g n cap : Nat} {rows : List Mr} (h : Rd w 25 3 (.slice (some ⟨g, 0, none⟩) n cap) rows.length (cellsOf rows)) {i : Nat} (hi : i < rows.length) (hn : n = rows.length) :
    w.cell? ⟨g, i * 3, none⟩ = some (.int .i64 rows[i].m.frm) ∧ w.cell? ⟨g, i * 3 + 1, none⟩ = some (.int .i64 rows[i].m.to) ∧ w.cell? ⟨g, i * 3 + 2, none⟩ = some rows[i].dv := by
  subst hn
  have h0 := h.cell rfl (i * 3 + 0) ((cellsOf_at rows i 0 hi (by omega)).trans rfl)
  have h1 := h.cell rfl (i * 3 + 1) ((cellsOf_at rows i 1 hi (by omega)).trans rfl)
  have h2 := h.cell rfl (i * 3 + 2) ((cellsOf_at rows i 2 hi (by omega)).trans rfl)
  simp only [Nat.zero_add, Nat.add_zero] at h0 h1 h2
  exact ⟨h0, h1, h2⟩

theorem erase_blocks {rows : List Mr} {i : Nat} (hi : i < rows.length) : (rows.flatMap Mr.blocks).Perm (rows[i].blocks ++ (rows.eraseIdx i).flatMap Mr.blocks) := by
  have h : rows = rows.take i ++ rows[i] :: rows.drop (i + 1) := by rw [List.getElem_cons_drop, List.take_append_drop]
  have e : rows.eraseIdx i = rows.take i ++ rows.drop (i + 1) := List.eraseIdx_eq_take_drop_succ ..
  rw [e]
  conv => lhs; rw [h]
  simp only [List.flatMap_append, List.flatMap_cons]
  rw [← List.append_assoc, ← List.append_assoc]
  exact List.perm_append_comm.append_right _

/-- A message is taken out of a net: what slices.Delete has left, and what else has turned (f: g alone, and new blocks), then the store. -/
theorem net_drop {T : TypeId} {w w' : World} {bn g i cap : Nat} {v0 : Value} {rows : List Mr}
    (h1 : w.heap[bn]? = some (.cells #[v0] T (0, 0))) (h3 : ∀ r ∈ rows, OwnB w r.dv r.m.data) (hnd : (bn :: ((some g).toList ++ rows.flatMap Mr.blocks)).Nodup)
    (hlen : rows.length ≤ 1024) (hdat : ∀ r ∈ rows, r.m.data.length ≤ 1048576) (hi : i < rows.length)
    (hown : Row w' (.slice (some ⟨g, 0, none⟩) (rows.length - 1) cap) (rows.eraseIdx i)) (f : Frm (fun k => k = g) w w') :
    NetAt T (w'.setCell ⟨bn, 0, none⟩ (.slice (some ⟨g, 0, none⟩) (rows.length - 1) cap)) bn ((rows.eraseIdx i).map (·.m)) (bn :: ((some g).toList ++ (rows.eraseIdx i).flatMap Mr.blocks)) ∧
    OwnB (w'.setCell ⟨bn, 0, none⟩ (.slice (some ⟨g, 0, none⟩) (rows.length - 1) cap)) rows[i].dv rows[i].m.data ∧
    Frm (· ∈ bn :: ((some g).toList ++ rows.flatMap Mr.blocks)) w (w'.setCell ⟨bn, 0, none⟩ (.slice (some ⟨g, 0, none⟩) (rows.length - 1) cap)) ∧
    (∀ k ∈ bn :: ((some g).toList ++ (rows.eraseIdx i).flatMap Mr.blocks), k ∈ bn :: ((some g).toList ++ rows.flatMap Mr.blocks)) ∧
    ∀ k, rows[i].dv.ownBlock = some k → k ∈ bn :: ((some g).toList ++ rows.flatMap Mr.blocks) ∧ k ∉ bn :: ((some g).toList ++ (rows.eraseIdx i).flatMap Mr.blocks) := by
  have hp := erase_blocks hi
  have hp2 : (bn :: ((some g).toList ++ rows.flatMap Mr.blocks)).Perm (rows[i].blocks ++ (bn :: ((some g).toList ++ (rows.eraseIdx i).flatMap Mr.blocks))) := by
    refine ((hp.append_left _).cons bn).trans ?_
    have : (bn :: ((some g).toList ++ (rows[i].blocks ++ (rows.eraseIdx i).flatMap Mr.blocks))) = [bn, g] ++ (rows[i].blocks ++ (rows.eraseIdx i).flatMap Mr.blocks) := rfl
    rw [this]
    refine (List.perm_append_comm_assoc _ _ _).trans ?_
    exact List.Perm.refl _
  have hnd2 := hp2.nodup_iff.1 hnd
  have hnd3 := List.nodup_append.1 hnd2
  obtain ⟨hn1, hn2⟩ := List.nodup_cons.1 hnd
  have hn2' := List.nodup_append.1 hn2
  have hgb : bn ≠ g := fun e => hn1 (by simp [e])
  have fset : Frm (fun k => k = bn) w' (w'.setCell ⟨bn, 0, none⟩ (.slice (some ⟨g, 0, none⟩) (rows.length - 1) cap)) := (Frm.refl (fun k => k = bn) w').setCell (p := ⟨bn, 0, none⟩) (fun _ => rfl) _
  have hblk : ∀ x ∈ rows, ∀ k, x.dv.ownBlock = some k → k ∈ rows.flatMap Mr.blocks := fun x hx k hk => List.mem_flatMap.2 ⟨x, hx, by simp [Mr.blocks, hk]⟩
  have hkeep : ∀ x ∈ rows, OwnB (w'.setCell ⟨bn, 0, none⟩ (.slice (some ⟨g, 0, none⟩) (rows.length - 1) cap)) x.dv x.m.data := fun x hx =>
    ((h3 x hx).keep f (fun k hk e => hn2'.2.2 g (by simp) k (hblk x hx k hk) e.symm)).keep fset (fun k hk e => hn1 (by rw [← e]; exact List.mem_append.2 (.inr (hblk x hx k hk))))
  have hsub : ∀ x ∈ rows.eraseIdx i, x ∈ rows := fun x hx => List.mem_of_mem_eraseIdx hx
  have hel : (rows.eraseIdx i).length = rows.length - 1 := List.length_eraseIdx_of_lt hi
  refine ⟨⟨_, rows.eraseIdx i, ?_, hown.keep fset (fun k hk e => ?_), fun x hx => hkeep x (hsub x hx), rfl, rfl, hnd3.2.1, by rw [List.length_map, hel]; omega, ?_⟩, hkeep _ (List.getElem_mem hi), (f.mono (fun k _ e => by simp [e])).trans (fset.mono (fun k _ e => by simp [e])) (fun _ _ h => h), fun k hk => hp2.mem_iff.2 (List.mem_append.2 (.inr hk)), fun k hk => ⟨?_, ?_⟩⟩
  · rw [heap_setCell_eq (f.keep h1 hgb)]; rfl
  · cases hk; exact hgb e.symm
  · intro m hm
    obtain ⟨x, hx, rfl⟩ := List.mem_map.1 hm
    exact hdat x (hsub x hx)
  · exact hp2.mem_iff.2 (List.mem_append.2 (.inl (by simp [Mr.blocks, hk])))
  · intro hm
    exact hnd3.2.2 k (by simp [Mr.blocks, hk]) k hm rfl

theorem erase_map (rows : List Mr) (k : Nat) : (rows.map (·.m)).eraseIdx k = (rows.eraseIdx k).map (·.m) := by
  induction rows generalizing k with
  | nil => rfl
  | cons r l ih => cases k <;> simp [ih]

/-- which message a pick takes -/
def pickAt (l : List Mg) (pick : Int) : Nat := ((max 0 pick) % (l.length : Int)).toNat
theorem pickAt_lt {l : List Mg} (pick : Int) (h : 0 < l.length) : pickAt l pick < l.length := by
  unfold pickAt
  have h1 := Int.emod_lt_of_pos (max 0 pick) (show (0 : Int) < l.length by omega)
  have h2 := Int.emod_nonneg (max 0 pick) (show (l.length : Int) ≠ 0 by omega)
  omega
theorem pickAt_int {l : List Mg} (pick : Int) (h : 0 < l.length) : (max 0 pick) % (l.length : Int) = (pickAt l pick : Int) := by
  unfold pickAt
  have h2 := Int.emod_nonneg (max 0 pick) (show (l.length : Int) ≠ 0 by omega)
  omega

/-- What Give leaves: v: the answer behind the message's slice -/
def TakePost (T : TypeId) (w : World) (bn : Nat) (S : List Nat) (Q : Nat → Prop) (l : List Mg) (k : Nat) (R : Value → Ending → World → Prop) (e : Ending) (w' : World) : Prop :=
  ∃ (hk : k < l.length) (S' : List Nat) (dv : Value), R (.agg #[.int .i64 l[k].frm, .int .i64 l[k].to, dv]) e w' ∧ NetAt T w' bn (l.eraseIdx k) S' ∧ OwnB w' dv l[k].data ∧ Frm (fun k => k ∈ S ∨ Q k) w w' ∧
    (∀ k ∈ S', k ∈ S) ∧ ∀ k, dv.ownBlock = some k → k ∈ S ∧ k ∉ S'

set_option maxRecDepth 100000 in
set_option maxHeartbeats 2000000 in
theorem giveC_spec (w : World) (bn : Nat) (l : List Mg) (S : List Nat) (h : NetAt 47 w bn l S) (k : Nat) (hk : k < l.length) (b1 b2 : Nat) (hb1 : w.heap[b1]? = some (.cells #[.pointer (some ⟨bn, 0, none⟩)] 28 (0, 0)))
    (hb2 : w.heap[b2]? = some (.cells #[.int .i64 0, .int .i64 0, .slice none 0 0] 25 (0, 0))) (hS1 : b1 ∉ S) (hS2 : b2 ∉ S) (h12 : b1 ≠ b2) :
    Calls Try.prog 25 #[.int .i64 k, .pointer (some ⟨b1, 0, none⟩), .pointer (some ⟨b2, 0, none⟩)] w
      (TakePost 47 w bn S (fun k => k = b2) l k (fun m e w' => e = .returned (.bool true) ∧ ∃ f t dv, m = .agg #[f, t, dv] ∧ w'.heap[b2]? = some (.cells #[f, t, dv] 25 (0, 0)))) := by
  have h0 := h
  obtain ⟨v, rows, h1, h2, h3, rfl, rfl, hnd, hlen, hdat⟩ := h
  rw [List.length_map] at hk hlen
  obtain ⟨va, vc, rfl, k1, k2, k3⟩ := h2.rd.shape
  unfold maxLen at k2 k3
  obtain ⟨g, rfl⟩ : ∃ g, va = some ⟨g, 0, none⟩ := by
    rcases h2.2 with ⟨h, h'⟩ | ⟨g, cap, c, h, _⟩
    · omega
    · cases h; exact ⟨g, rfl⟩
  obtain ⟨e0, e1, e2⟩ := row_cells h2.rd hk rfl
  obtain ⟨da, dc, hdv, _, _, _⟩ := (h3 _ (List.getElem_mem hk)).rd.shape
  rw [hdv] at e2
  have c1 : w.cell? ⟨b1, 0, none⟩ = some (.pointer (some ⟨bn, 0, none⟩)) := cell_is hb1 0 _ rfl
  have c2 : w.cell? ⟨bn, 0, none⟩ = some (.slice (some ⟨g, 0, none⟩) rows.length vc) := cell_is h1 0 _ rfl
  have c3 : w.cell? ⟨b2, 0, none⟩ = some (.int .i64 0) := cell_is hb2 0 _ rfl
  have c4 : w.cell? ⟨b2, 1, none⟩ = some (.int .i64 0) := cell_is hb2 1 _ rfl
  have c5 : w.cell? ⟨b2, 2, none⟩ = some (.slice none 0 0) := cell_is hb2 2 _ rfl
  have f2 := frozen_of hb2
  have hbn2 : bn ≠ b2 := fun e => hS2 (by simp [e])
  have hg2 : g ≠ b2 := fun e => hS2 (by simp [Value.ownBlock, e])
  have hgb : g ≠ bn := fun e => (List.nodup_cons.1 hnd).1 (by simp [Value.ownBlock, e])
  have hg1 : g ≠ b1 := fun e => hS1 (by simp [Value.ownBlock, e])
  have hbn1 : bn ≠ b1 := fun e => hS1 (by simp [e])
  have hd2 : ∀ r ∈ rows, ∀ k, r.dv.ownBlock = some k → k ≠ b2 := fun r hr k hk e => hS2 (by rw [← e]; exact List.mem_cons_of_mem _ (List.mem_append.2 (.inr (List.mem_flatMap.2 ⟨r, hr, by simp [Mr.blocks, hk]⟩))))
  go_enter Try.func25, Try.ntmps25
  go_wp2_with fail
  generalize hw1 : World.setCell (World.setCell (World.setCell w _ _) _ _) _ _ = w1
  have f1 : Frm (fun k => k = b2) w w1 := by
    rw [← hw1]
    exact (((Frm.refl (fun k => k = b2) w).setCell (p := ⟨b2, 0, none⟩) (fun _ => rfl) _).setCell (p := ⟨b2, 1, none⟩) (fun _ => rfl) _).setCell (p := ⟨b2, 2, none⟩) (fun _ => rfl) _
  have hb2' : w1.heap[b2]? = some (.cells #[.int .i64 rows[k].m.frm, .int .i64 rows[k].m.to, .slice da rows[k].m.data.length dc] 25 (0, 0)) := by
    rw [← hw1, heap_setCell_eq (heap_setCell_eq (heap_setCell_eq hb2 _ _) _ _)]; rfl
  clear hw1 c1 c2 c3 c4 c5 e0 e1 e2
  have g1 := f1.keep h1 hbn2
  have g2 := h2.keep f1 (fun k hk e => by cases hk; exact hg2 e)
  have g3 : ∀ r ∈ rows, OwnB w1 r.dv r.m.data := fun r hr => (h3 r hr).keep f1 (fun k hk e => hd2 r hr k hk e)
  have gb1 := f1.keep hb1 h12
  have c1 : w1.drew.cell? ⟨b1, 0, none⟩ = some (.pointer (some ⟨bn, 0, none⟩)) := cell_is gb1 0 _ rfl
  have c2 : w1.drew.cell? ⟨bn, 0, none⟩ = some (.slice (some ⟨g, 0, none⟩) rows.length vc) := cell_is g1 0 _ rfl
  have hone := cellsOf_one h3
  have Hg2 : Hid (Row w1.drew (.slice (some ⟨g, 0, none⟩) rows.length vc) rows) := g2.of_eq (fun _ _ => rfl)
  have Hone := Lib.hid hone
  have H3 := Lib.hid h3
  have G3 := Lib.hid g3
  have Hd2 := Lib.hid hd2
  clear hone h3 g3 hd2
  have hk1 : IntKind.i64.wrap ((k : Int) + 1) = (k : Int) + 1 := by rw [IntKind.wrap_i64]; omega
  go_region_law (
    (go_simp
     go_at_call 26
     (with_reducible refine (slDelete_spec _ g vc k rows Hg2.out Hone.out hk).mono ?_)
     rintro e w2 ⟨rfl, a1, a2⟩
     have q1 : w2.heap[b1]? = _ := a2.keep (w := w1.drew) gb1 (fun e => hg1 e.symm)
     have q2 : w2.heap[bn]? = _ := a2.keep (w := w1.drew) g1 (fun e => hgb e.symm)
     have c3 : w2.cell? ⟨b1, 0, none⟩ = some (.pointer (some ⟨bn, 0, none⟩)) := cell_is q1 0 _ rfl
     have c4 : w2.cell? ⟨bn, 0, none⟩ = some (.slice (some ⟨g, 0, none⟩) rows.length vc) := cell_is q2 0 _ rfl
     have c5 := frozen_of q2 0))
  all_goals go_wp2_with fail
  all_goals go_ret
  all_goals
    obtain ⟨n1, n2, n3, n4, n5⟩ := net_drop (T := 47) g1 G3.out hnd hlen (fun r hr => hdat r.m (List.mem_map.2 ⟨r, hr, rfl⟩)) hk a1 (((Frm.refl (fun k => k = g) w1).drew).trans a2 (fun _ _ h => h))
    refine ⟨by simpa using hk, _, rows[k].dv, ⟨rfl, _, _, _, rfl, ?_⟩, ?_, ?_, ?_, n4, n5⟩
    · rw [heap_setCell_ne _ _ _ _ (Ne.symm hbn2)]
      simp only [List.getElem_map]
      rw [hdv]
      exact a2.keep (w := w1.drew) hb2' (fun e => hg2 e.symm)
    · rw [erase_map]; exact n1
    · simp only [List.getElem_map]; exact n2
    · exact (f1.mono (fun _ _ e => .inr e)).trans (n3.mono (fun _ _ e => .inl e)) (fun _ _ h => h)
end Go.Proofs.Ytccknjnbpccmhaa
