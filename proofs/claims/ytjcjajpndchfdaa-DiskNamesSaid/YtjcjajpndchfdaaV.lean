/- Disk.sync, remove, behind the gate. -/
import Derived.Test.YtjcjajpndchfdaaW
namespace Go.Proofs.Ytjcjajpndchfdaa
open Go.RowKit

/-- A disk, of one of whose files another beginning lasts. -/
theorem disk_lasts {w W : World} {bd bm : Nat} {fused : Bool} {left : Int} {D : MD} {p q : List Rw} {r : Rw} {n : Nat}
    (h1 : w.heap[bd]? = some (.cells #[.int .i64 D.room, .map (some bm), .bool fused, .int .i64 left] 60 (0, 0))) (h2 : fuseCells D.fuse fused left)
    (h3 : MapB Try.prog 9 w bm ((p ++ r :: q).map Rw.kv)) (h4 : ∀ x ∈ p ++ r :: q, FileOk w x) (hnd : (bd :: bm :: (p ++ r :: q).flatMap Rw.blocks).Nodup)
    (hfiles : D.files = (p ++ r :: q).map nf) (hok : D.Ok) (g : Grew w W) (hn : n ≤ r.f.data.length) :
    ∃ S', DiskAt (W.setCell ⟨r.bf, 1, none⟩ (.int .i64 n)) bd { D with files := MD.put D.files r.name ⟨r.f.data, n⟩ } S' ∧ Frm (· ∈ bd :: bm :: (p ++ r :: q).flatMap Rw.blocks) w (W.setCell ⟨r.bf, 1, none⟩ (.int .i64 n)) ∧
      ∀ k ∈ S', k ∈ bd :: bm :: (p ++ r :: q).flatMap Rw.blocks ∨ w.heap.size ≤ k := by
  have hnm := (mid_names (names_of_kv h3.distinct)).1
  have hf := (h4 r (by simp)).keepG g
  have hnb := nb_of_nodup hnd
  have hfr : Frm (fun k => k ∈ r.blocks) W (W.setCell ⟨r.bf, 1, none⟩ (.int .i64 n)) := (Frm.refl _ W).setCell (fun _ => by simp [Rw.blocks]) _
  have hfo : FileOk (W.setCell ⟨r.bf, 1, none⟩ (.int .i64 n)) ⟨r.name, r.bf, r.dv, ⟨r.f.data, n⟩⟩ := by
    refine ⟨?_, hf.2.of_eq (fun k hk => heap_setCell_ne W _ _ _ (hnb k hk))⟩
    rw [heap_setCell_eq hf.1]; rfl
  have hD' : MD.Ok { D with files := MD.put D.files r.name ⟨r.f.data, n⟩ } := by
    rw [hfiles, put_rows hnm]
    exact hok.put hfiles hn (by have := hok.used; simp; omega) D.fuse hok.fuse
  have hrb : (⟨r.name, r.bf, r.dv, ⟨r.f.data, n⟩⟩ : Rw).blocks = r.blocks := rfl
  have hnr : r.blocks.Nodup := by
    cases hv : r.dv.ownBlock with
    | none => simp [Rw.blocks, hv]
    | some k => simp [Rw.blocks, hv]; exact fun e => hnb k hv e.symm
  have hd := disk_mid (D' := { D with files := MD.put D.files r.name ⟨r.f.data, n⟩ }) (r' := ⟨r.name, r.bf, r.dv, ⟨r.f.data, n⟩⟩)
    (g.keepG h1) h2 (h3.keep g (fun f => f)) (fun x hx => (h4 x hx).keepG g) hnd rfl rfl hfr hfo (fun k hk => .inl hk) hnr hD' rfl rfl (by rw [hfiles]; show MD.put _ _ _ = _; rw [put_rows hnm]; simp [nf])
  refine ⟨_, hd.1, Grew.trans g (hfr.mono (fun k _ hk => ?_)), fun k hk => (hd.2 k hk).imp id (fun h => Nat.le_trans g.size h)⟩
  rw [blocks_mid]
  simp only [List.mem_append]
  exact .inl (.inr hk)

set_option maxRecDepth 100000 in
set_option maxHeartbeats 1000000 in
theorem sync_spec (w : World) (bd : Nat) (D : MD) (S : List Nat) (hD : DiskAt w bd D S) (nm : ByteArray) (hnm : nm.size ≤ 64) (bn : Nat) (hbn : w.heap[bn]? = some (.cells #[.string nm] 9 (0, 0))) (n : Int) (pv : Value) :
    Calls Try.prog 31 #[.pointer (some ⟨bd, 0, none⟩), .agg #[.slice (some ⟨bn, 0, none⟩) 1 1, .int .i64 n, pv]] w (DiskPost w bd S (MD.syncIn D nm)) := by
  have hD0 := hD
  obtain ⟨bm, fused, left, rows, h1, h2, h3, h4, h5, hS, hnd, hok⟩ := hD
  rw [hS] at hnd
  have HS := Lib.hid hS
  clear hS
  have hroom := hok.room
  have hused := hok.used
  have H5 := Lib.hid h5
  clear h5
  go_enter Try.func31, Try.ntmps31
  go_wp2_with fail
  generalize hw1 : World.alloc w _ = w1
  have g1 : Grew w w1 := hw1 ▸ grew_alloc w _
  have hbx : w1.heap[w.heap.size]? = some (.cells #[.slice (some ⟨bn, 0, none⟩) 1 1, .int .i64 n, pv] 64 (0, 0)) := hw1 ▸ heap_alloc_new' w _
  have hbx0 : w.heap.size ≤ w.heap.size := Nat.le_refl _
  generalize hbxe : w.heap.size = bx at hbx hbx0 ⊢
  clear hw1
  refine wp_ext fun s => ?_
  have e1 := ext_cell (g1.keepG h1) 0 _ rfl
  have e2 := ext_cell (g1.keepG h1) 1 _ rfl
  have e3 := ext_cell hbx 0 _ rfl
  have e4 := ext_cell hbx 1 _ rfl
  have e5 := ext_cell hbx 2 _ rfl
  have e6 := ext_cell (g1.keepG hbn) 0 _ rfl
  rcases map_look' h3 strKey Try.underlying58 zeroFile (keyS hnm) with ⟨pre, v, post, hsp, hlk⟩ | ⟨habs, hlk⟩
  · obtain ⟨q1, r, q2, rfl, rfl, rfl, hrn, rfl⟩ := row_of_kv hsp
    obtain rfl : nm = r.name := by injection hrn
    clear hrn
    have el : ∀ s : Ext w1, (Instr.lookup 58 (.map (some bm)) (.string r.name) false).run Try.prog s.w = .ok (.pointer (some ⟨r.bf, 0, none⟩)) s.w := fun s => hlk s.w (Grew.trans g1 s.h |>.block bm h3.lt (fun f => f))
    refine wp_region_ext _ (by kernel_rfl) (by kernel_rfl) ?_
    repeat (go_big_quiet_step (fail))
    refine wpQuiet_nil ?_
    intro s
    have hf1 := (h4 r (by simp)).keepG g1
    obtain ⟨da, dc, hdv, _, _, _⟩ := hf1.2.rd.shape
    have e7 : ∀ s : Ext w1, s.w.cell? ⟨r.bf, 0, none⟩ = some (.slice da r.f.data.length dc) := hdv ▸ ext_cell hf1.1 0 _ rfl
    have e8 := ext_cell hf1.1 1 _ rfl
    have f8 := ext_frozen hf1.1 1
    go_wp2_with fail
    go_ret
    have hnn := (mid_names (names_of_kv h3.distinct)).1
    have hfd : MD.find D.files r.name = some r.f := by rw [H5.out]; exact find_rows hnn
    have hm : MD.syncIn D r.name = (0, { D with files := MD.put D.files r.name ⟨r.f.data, r.f.data.length⟩ }) := by
      unfold MD.syncIn
      rw [hfd]
    obtain ⟨S', k1, k2, k3⟩ := disk_lasts (p := q1) (q := q2) h1 h2 h3 h4 hnd H5.out hok (Grew.trans g1 s.h) (Nat.le_refl _)
    exact DiskPost.mk 0 _ hm rfl k1 (by rw [HS.out]; exact k2) (by rw [HS.out]; exact k3)
  · have el : ∀ s : Ext w1, (Instr.lookup 58 (.map (some bm)) (.string nm) false).run Try.prog s.w = .ok (.pointer none) s.w := fun s => hlk s.w (Grew.trans g1 s.h |>.block bm h3.lt (fun f => f))
    have hfd : MD.find D.files nm = none := by rw [H5.out]; exact find_none (absent_rows habs)
    have hm : MD.syncIn D nm = (7, D) := by unfold MD.syncIn; rw [hfd]
    clear hlk habs
    have Hfd := Lib.hid hfd
    have Hm := Lib.hid hm
    clear hfd hm
    refine wp_region_ext _ (by kernel_rfl) (by kernel_rfl) ?_
    repeat (go_big_quiet_step (fail))
    refine wpQuiet_nil ?_
    intro s
    go_wp2_with fail
    go_ret
    exact DiskPost.same 7 hD0 Hm.out rfl (Grew.trans g1 s.h) (hD0.keepG (Grew.trans g1 s.h))
end Go.Proofs.Ytjcjajpndchfdaa
