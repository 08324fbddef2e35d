/- Disk.remove, Disk.rename, behind the gate. -/
import Derived.Test.YtjcjajpndchfdaaV
namespace Go.Proofs.Ytjcjajpndchfdaa
open Go.RowKit

theorem blocks_perm (p q : List Rw) (r : Rw) : ((p ++ r :: q).flatMap Rw.blocks).Perm (r.blocks ++ (p ++ q).flatMap Rw.blocks) := by
  simp only [List.flatMap_append, List.flatMap_cons]
  rw [← List.append_assoc, ← List.append_assoc]
  exact List.perm_append_comm.append_right _

theorem nodup_del {bd bm : Nat} {p q : List Rw} {r : Rw} (h : (bd :: bm :: (p ++ r :: q).flatMap Rw.blocks).Nodup) : (bd :: bm :: (p ++ q).flatMap Rw.blocks).Nodup ∧ (∀ k ∈ r.blocks, k ∉ bd :: bm :: (p ++ q).flatMap Rw.blocks) ∧ r.blocks.Nodup := by
  have h' : (bd :: bm :: (r.blocks ++ (p ++ q).flatMap Rw.blocks)).Nodup := (((blocks_perm p q r).cons bm).cons bd).nodup_iff.1 h
  rw [List.nodup_cons, List.nodup_cons] at h'
  obtain ⟨n1, n2, n3⟩ := h'
  rw [List.nodup_append] at n3
  simp only [List.mem_cons, List.mem_append, not_or] at n1 n2
  refine ⟨List.nodup_cons.2 ⟨by simp only [List.mem_cons, not_or]; exact ⟨n1.1, n1.2.2⟩, List.nodup_cons.2 ⟨n2.2, n3.2.1⟩⟩, ?_, n3.1⟩
  intro k hk hm
  simp only [List.mem_cons] at hm
  rcases hm with rfl | rfl | hm
  · exact n1.2.1 hk
  · exact n2.1 hk
  · exact n3.2.2 k hk k hm rfl

theorem used_sub {l m : List (ByteArray × MF)} (h : l.Sublist m) : MD.used l ≤ MD.used m := by
  induction h with
  | slnil => exact Nat.le_refl _
  | cons a _ ih => rw [used_cons]; omega
  | cons_cons a _ ih => rw [used_cons, used_cons]; omega

theorem MD.Ok.sub {D : MD} (h : D.Ok) {l : List (ByteArray × MF)} (hs : l.Sublist D.files) : MD.Ok { D with files := l } := by
  refine ⟨h.room, ?_, ?_, fun x hx => h.names x (hs.mem hx), fun x hx => h.lasts x (hs.mem hx), h.fuse⟩
  · refine Nat.le_trans ?_ h.used
    exact used_sub hs
  · exact Nat.le_trans hs.length_le h.many

/-- A disk without one of its files. -/
theorem disk_del {w W w' : World} {bd bm : Nat} {fused : Bool} {left : Int} {D : MD} {p q : List Rw} {r : Rw}
    (h1 : w.heap[bd]? = some (.cells #[.int .i64 D.room, .map (some bm), .bool fused, .int .i64 left] 60 (0, 0))) (h2 : fuseCells D.fuse fused left)
    (h3 : MapB Try.prog 9 w bm ((p ++ r :: q).map Rw.kv)) (h4 : ∀ x ∈ p ++ r :: q, FileOk w x) (hnd : (bd :: bm :: (p ++ r :: q).flatMap Rw.blocks).Nodup)
    (hfiles : D.files = (p ++ r :: q).map nf) (hok : D.Ok) (g : Grew w W) (f : Frm (fun k => k = bm) W w') (hm : MapB Try.prog 9 w' bm ((p ++ q).map Rw.kv)) :
    DiskAt w' bd { D with files := MD.del D.files r.name } (bd :: bm :: (p ++ q).flatMap Rw.blocks) ∧ Frm (· ∈ bd :: bm :: (p ++ r :: q).flatMap Rw.blocks) w w' ∧
      ∀ k ∈ bd :: bm :: (p ++ q).flatMap Rw.blocks, k ∈ bd :: bm :: (p ++ r :: q).flatMap Rw.blocks := by
  have hnm := (mid_names (names_of_kv h3.distinct)).1
  have n2 := (List.nodup_cons.1 (List.nodup_cons.1 hnd).2).1
  have n1 := (List.nodup_cons.1 hnd).1
  have hmem : ∀ x ∈ p ++ q, x ∈ p ++ r :: q := fun x hx => by simp at hx ⊢; rcases hx with h | h <;> simp [h]
  refine ⟨⟨bm, fused, left, p ++ q, ?_, h2, hm, ?_, ?_, rfl, (nodup_del hnd).1, ?_⟩, Grew.trans g (f.mono (fun k _ e => by simp [e])), ?_⟩
  · exact f.keep (g.keepG h1) (fun e => n1 (by simp [e]))
  · intro x hx
    exact ((h4 x (hmem x hx)).keepG g).keep f (fun k hk e => n2 (by rw [← e]; simp only [List.mem_flatMap]; exact ⟨x, hmem x hx, hk⟩))
  · show MD.del D.files r.name = _
    rw [hfiles, del_rows hnm]
  · rw [hfiles, del_rows hnm]
    refine hok.sub ?_
    rw [hfiles]
    simp only [List.map_append, List.map_cons]
    exact (List.Sublist.refl _).append (List.sublist_cons_self _ _)
  · intro k hk
    simp only [List.mem_cons, List.mem_flatMap] at hk ⊢
    rcases hk with h | h | ⟨x, hx, hk⟩
    · exact .inl h
    · exact .inr (.inl h)
    · exact .inr (.inr ⟨x, hmem x hx, hk⟩)

set_option maxRecDepth 100000 in
set_option maxHeartbeats 1000000 in
theorem remove_spec (w : World) (bd : Nat) (D : MD) (S : List Nat) (hD : DiskAt w bd D S) (nm : ByteArray) (hnm : nm.size ≤ 64) (bn : Nat) (hbn : w.heap[bn]? = some (.cells #[.string nm] 9 (0, 0))) (n : Int) (pv : Value) :
    Calls Try.prog 33 #[.pointer (some ⟨bd, 0, none⟩), .agg #[.slice (some ⟨bn, 0, none⟩) 1 1, .int .i64 n, pv]] w (DiskPost w bd S (MD.removeIn D nm)) := by
  have hD0 := hD
  obtain ⟨bm, fused, left, rows, h1, h2, h3, h4, h5, hS, hnd, hok⟩ := hD
  rw [hS] at hnd
  have HS := Lib.hid hS
  clear hS
  have hroom := hok.room
  have hused := hok.used
  have H5 := Lib.hid h5
  clear h5
  go_enter Try.func33, Try.ntmps33
  go_wp2_with fail
  generalize hw1 : World.alloc w _ = w1
  have g1 : Grew w w1 := hw1 ▸ grew_alloc w _
  have hbx : w1.heap[w.heap.size]? = some (.cells #[.slice (some ⟨bn, 0, none⟩) 1 1, .int .i64 n, pv] 64 (0, 0)) := hw1 ▸ heap_alloc_new' w _
  have hbx0 : w.heap.size ≤ w.heap.size := Nat.le_refl _
  generalize hbxe : w.heap.size = bx at hbx hbx0 ⊢
  clear hw1
  refine wp_ext fun s => ?_
  have e1 := ext_cell (g1.keepG h1) 0 _ rfl
  have e2 := ext_cell (g1.keepG h1) 1 _ rfl
  have e3 := ext_cell hbx 0 _ rfl
  have e4 := ext_cell hbx 1 _ rfl
  have e5 := ext_cell hbx 2 _ rfl
  have e6 := ext_cell (g1.keepG hbn) 0 _ rfl
  rcases map_look' h3 strKey Try.underlying58 zeroFile (keyS hnm) with ⟨pre, v, post, hsp, hlk⟩ | ⟨habs, hlk⟩
  · obtain ⟨q1, r, q2, rfl, rfl, rfl, hrn, rfl⟩ := row_of_kv hsp
    obtain rfl : nm = r.name := by injection hrn
    clear hrn
    have el : ∀ s : Ext w1, (Instr.lookup 58 (.map (some bm)) (.string r.name) false).run Try.prog s.w = .ok (.pointer (some ⟨r.bf, 0, none⟩)) s.w := fun s => hlk s.w (Grew.trans g1 s.h |>.block bm h3.lt (fun f => f))
    refine wp_region_ext _ (by kernel_rfl) (by kernel_rfl) ?_
    repeat (go_big_quiet_step (fail))
    refine wpQuiet_nil ?_
    intro s
    go_wp2_with fail
    go_still_tail 8, (by kernel_rfl)
    refine wpList_mapDel rfl _ _ 58 9 65 rfl strKey Try.underlying58 bm _ rfl ((h3.keepG (Grew.trans g1 s.h)).of_eq rfl) (.string r.name) _ rfl (keyS hnm) (fun w3 f3 z3 hd3 => ?_)
    have hm3 : MapB Try.prog 9 w3 bm ((q1 ++ q2).map Rw.kv) := by
      rcases hd3 with ⟨pre, v0, post, hk, hm⟩ | ⟨hk, _⟩
      · obtain ⟨rfl, _, rfl⟩ := split_unique h3.distinct (by simp [Rw.kv] : _ = q1.map Rw.kv ++ (.string r.name, .pointer (some ⟨r.bf, 0, none⟩)) :: q2.map Rw.kv) hk
        rw [List.map_append]; exact hm
      · exact absurd rfl (hk (Rw.kv r) (by simp))
    clear hd3
    have f3' : Frm (fun k => k = bm) s.w w3 := ((Frm.refl _ s.w).drew).trans f3 (fun _ _ h => h)
    go_wp2_with fail
    go_ret
    have hnn := (mid_names (names_of_kv h3.distinct)).1
    have hfd : MD.find D.files r.name = some r.f := by rw [H5.out]; exact find_rows hnn
    have hm : MD.removeIn D r.name = (0, { D with files := MD.del D.files r.name }) := by
      unfold MD.removeIn
      rw [hfd]
    obtain ⟨k1, k2, k3⟩ := disk_del (p := q1) (q := q2) h1 h2 h3 h4 hnd H5.out hok (Grew.trans g1 s.h) f3' hm3
    exact DiskPost.mk 0 _ hm rfl k1 (by rw [HS.out]; exact k2) (fun k hk => .inl (by rw [HS.out]; exact k3 k hk))
  · have el : ∀ s : Ext w1, (Instr.lookup 58 (.map (some bm)) (.string nm) false).run Try.prog s.w = .ok (.pointer none) s.w := fun s => hlk s.w (Grew.trans g1 s.h |>.block bm h3.lt (fun f => f))
    have hfd : MD.find D.files nm = none := by rw [H5.out]; exact find_none (absent_rows habs)
    have hm : MD.removeIn D nm = (7, D) := by unfold MD.removeIn; rw [hfd]
    clear hlk habs
    have Hfd := Lib.hid hfd
    have Hm := Lib.hid hm
    clear hfd hm
    refine wp_region_ext _ (by kernel_rfl) (by kernel_rfl) ?_
    repeat (go_big_quiet_step (fail))
    refine wpQuiet_nil ?_
    intro s
    go_wp2_with fail
    go_ret
    exact DiskPost.same 7 hD0 Hm.out rfl (Grew.trans g1 s.h) (hD0.keepG (Grew.trans g1 s.h))
end Go.Proofs.Ytjcjajpndchfdaa
