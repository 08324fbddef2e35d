/- Disk.rename, behind the gate. -/
import Derived.Test.YtjcjajpndchfdaaGR
import Derived.Test.YtjcjajpndchfdaaF
import Derived.Test.YtjcjajpndchfdaaPR
namespace Go.Proofs.Ytjcjajpndchfdaa
open Go.RowKit

theorem ren_perm (pre post : List Rw) (r : Rw) (nm : ByteArray) : ((pre ++ ({ r with name := nm } : Rw) :: post).flatMap Rw.blocks).Perm (r.blocks ++ (pre ++ post).flatMap Rw.blocks) :=
  blocks_perm pre post { r with name := nm }

/-- A disk one of whose files has got another name; a file of that name is gone. -/
theorem disk_ren {w W w' : World} {bd bm : Nat} {fused : Bool} {left : Int} {D : MD} {p q pre mid post : List Rw} {r : Rw} {nm : ByteArray} (hbase : p ++ q = pre ++ mid ++ post) (hnm64 : nm.size ≤ 64)
    (h1 : w.heap[bd]? = some (.cells #[.int .i64 D.room, .map (some bm), .bool fused, .int .i64 left] 60 (0, 0))) (h2 : fuseCells D.fuse fused left)
    (h4 : ∀ x ∈ p ++ r :: q, FileOk w x) (hnd : (bd :: bm :: (p ++ r :: q).flatMap Rw.blocks).Nodup)
    (hfiles : D.files = (p ++ r :: q).map nf) (hok : D.Ok) (g : Grew w W) (f : Frm (fun k => k = bm) W w') (hm : MapB Try.prog 9 w' bm ((pre ++ ({ r with name := nm } : Rw) :: post).map Rw.kv)) :
    DiskAt w' bd { D with files := (pre ++ ({ r with name := nm } : Rw) :: post).map nf } (bd :: bm :: (pre ++ ({ r with name := nm } : Rw) :: post).flatMap Rw.blocks) ∧ Frm (· ∈ bd :: bm :: (p ++ r :: q).flatMap Rw.blocks) w w' ∧
      ∀ k ∈ bd :: bm :: (pre ++ ({ r with name := nm } : Rw) :: post).flatMap Rw.blocks, k ∈ bd :: bm :: (p ++ r :: q).flatMap Rw.blocks := by
  have n2 := (List.nodup_cons.1 (List.nodup_cons.1 hnd).2).1
  have n1 := (List.nodup_cons.1 hnd).1
  have hsub : (pre ++ post).Sublist (p ++ q) := by rw [hbase]; simp
  have hmem : ∀ x ∈ pre ++ post, x ∈ p ++ r :: q := fun x hx => by have := hsub.mem hx; simp at this ⊢; rcases this with h | h <;> simp [h]
  have hrow : ∀ x ∈ pre ++ ({ r with name := nm } : Rw) :: post, x = { r with name := nm } ∨ x ∈ pre ++ post := fun x hx => by
    simp only [List.mem_append, List.mem_cons] at hx ⊢
    rcases hx with h | h | h
    · exact .inr (.inl h)
    · exact .inl h
    · exact .inr (.inr h)
  have hr : FileOk w r := h4 r (by simp)
  have hfm : ∀ k ∈ (pre ++ ({ r with name := nm } : Rw) :: post).flatMap Rw.blocks, k ∈ (p ++ r :: q).flatMap Rw.blocks := by
    intro k hk
    have hk' := (ren_perm pre post r nm).mem_iff.1 hk
    refine (blocks_perm p q r).mem_iff.2 ?_
    simp only [List.mem_append, List.mem_flatMap] at hk' ⊢
    rcases hk' with h | ⟨x, hx, hk⟩
    · exact .inl h
    · exact .inr ⟨x, by have := hsub.mem (List.mem_append.2 hx); simpa using this, hk⟩
  refine ⟨⟨bm, fused, left, pre ++ { r with name := nm } :: post, ?_, h2, hm, ?_, rfl, rfl, ?_, ?_⟩, Grew.trans g (f.mono (fun k _ e => by simp [e])), ?_⟩
  · exact f.keep (g.keepG h1) (fun e => n1 (by simp [e]))
  · intro x hx
    rcases hrow x hx with rfl | hx
    · exact (hr.keepG g).keep f (fun k hk e => n2 (by rw [← e]; simp only [List.mem_flatMap]; exact ⟨r, by simp, hk⟩))
    · exact ((h4 x (hmem x hx)).keepG g).keep f (fun k hk e => n2 (by rw [← e]; simp only [List.mem_flatMap]; exact ⟨x, hmem x hx, hk⟩))
  · have h' : (bd :: bm :: (r.blocks ++ (p ++ q).flatMap Rw.blocks)).Nodup := (((blocks_perm p q r).cons bm).cons bd).nodup_iff.1 hnd
    refine (((ren_perm pre post r nm).cons bm).cons bd).nodup_iff.2 (h'.sublist ?_)
    refine List.Sublist.cons_cons _ (List.Sublist.cons_cons _ ((List.Sublist.refl _).append ?_))
    rw [hbase]
    simp only [List.flatMap_append]
    exact ((List.sublist_append_left _ _)).append (List.Sublist.refl _)
  · have hu := hok.used
    have hma := hok.many
    have hub : MD.used ((pre ++ ({ r with name := nm } : Rw) :: post).map nf) ≤ MD.used D.files := by
      rw [hfiles]
      have e1 : MD.used ((p ++ r :: q).map nf) = r.f.data.length + MD.used ((p ++ q).map nf) := by
        simp only [List.map_append, List.map_cons, used_append, used_cons]; omega
      have e2 : MD.used ((pre ++ ({ r with name := nm } : Rw) :: post).map nf) = r.f.data.length + MD.used ((pre ++ post).map nf) := by
        simp only [List.map_append, List.map_cons, used_append, used_cons]; omega
      have := used_sub (hsub.map nf)
      omega
    refine ⟨hok.room, Nat.le_trans hub hu, ?_, ?_, ?_, hok.fuse⟩
    · have := hsub.length_le
      rw [hfiles] at hma
      simp only [List.length_map, List.length_append, List.length_cons] at this hma ⊢
      omega
    · intro x hx
      obtain ⟨y, hy, rfl⟩ := List.mem_map.1 hx
      rcases hrow y hy with rfl | hy
      · exact hnm64
      · exact hok.names (nf y) (by rw [hfiles]; exact List.mem_map.2 ⟨y, hmem y hy, rfl⟩)
    · intro x hx
      obtain ⟨y, hy, rfl⟩ := List.mem_map.1 hx
      rcases hrow y hy with rfl | hy
      · exact hok.lasts (nf r) (by rw [hfiles]; exact List.mem_map.2 ⟨r, by simp, rfl⟩)
      · exact hok.lasts (nf y) (by rw [hfiles]; exact List.mem_map.2 ⟨y, hmem y hy, rfl⟩)
  · intro k hk
    simp only [List.mem_cons] at hk ⊢
    rcases hk with h | h | h
    · exact .inl h
    · exact .inr (.inl h)
    · exact .inr (.inr (hfm k h))

set_option maxRecDepth 100000 in
set_option maxHeartbeats 1000000 in
theorem rename_spec (w : World) (bd : Nat) (D : MD) (S : List Nat) (hD : DiskAt w bd D S) (nm nm2 : ByteArray) (hnm : nm.size ≤ 64) (hnm2 : nm2.size ≤ 64) (bn : Nat) (hbn : w.heap[bn]? = some (.cells #[.string nm, .string nm2] 9 (0, 0))) (n : Int) (pv : Value) :
    Calls Try.prog 34 #[.pointer (some ⟨bd, 0, none⟩), .agg #[.slice (some ⟨bn, 0, none⟩) 2 2, .int .i64 n, pv]] w (DiskPost w bd S (MD.renameIn D nm nm2)) := by
  have hD0 := hD
  obtain ⟨bm, fused, left, rows, h1, h2, h3, h4, h5, hS, hnd, hok⟩ := hD
  rw [hS] at hnd
  have HS := Lib.hid hS
  clear hS
  have hroom := hok.room
  have hused := hok.used
  have H5 := Lib.hid h5
  clear h5
  go_enter Try.func34, Try.ntmps34
  go_wp2_with fail
  generalize hw1 : World.alloc w _ = w1
  have g1 : Grew w w1 := hw1 ▸ grew_alloc w _
  have hbx : w1.heap[w.heap.size]? = some (.cells #[.slice (some ⟨bn, 0, none⟩) 2 2, .int .i64 n, pv] 64 (0, 0)) := hw1 ▸ heap_alloc_new' w _
  have hbx0 : w.heap.size ≤ w.heap.size := Nat.le_refl _
  generalize hbxe : w.heap.size = bx at hbx hbx0 ⊢
  clear hw1
  refine wp_ext fun s => ?_
  have e1 := ext_cell (g1.keepG h1) 0 _ rfl
  have e2 := ext_cell (g1.keepG h1) 1 _ rfl
  have e3 := ext_cell hbx 0 _ rfl
  have e4 := ext_cell hbx 1 _ rfl
  have e5 := ext_cell hbx 2 _ rfl
  have e6 := ext_cell (g1.keepG hbn) 0 _ rfl
  rcases map_look' h3 strKey Try.underlying58 zeroFile (keyS hnm) with ⟨pre, v, post, hsp, hlk⟩ | ⟨habs, hlk⟩
  · obtain ⟨q1, r, q2, rfl, rfl, rfl, hrn, rfl⟩ := row_of_kv hsp
    obtain rfl : nm = r.name := by injection hrn
    clear hrn
    have el : ∀ s : Ext w1, (Instr.lookup 58 (.map (some bm)) (.string r.name) false).run Try.prog s.w = .ok (.pointer (some ⟨r.bf, 0, none⟩)) s.w := fun s => hlk s.w (Grew.trans g1 s.h |>.block bm h3.lt (fun f => f))
    refine wp_region_ext _ (by kernel_rfl) (by kernel_rfl) ?_
    repeat (go_big_quiet_step (fail))
    refine wpQuiet_nil ?_
    intro s
    go_wp2_with fail
    go_still_tail 8, (by kernel_rfl)
    refine wpList_mapDel rfl _ _ 58 9 65 rfl strKey Try.underlying58 bm _ rfl ((h3.keepG (Grew.trans g1 s.h)).of_eq rfl) (.string r.name) _ rfl (keyS hnm) (fun w3 f3 z3 hd3 => ?_)
    have hm3 : MapB Try.prog 9 w3 bm ((q1 ++ q2).map Rw.kv) := by
      rcases hd3 with ⟨pre, v0, post, hk, hm⟩ | ⟨hk, _⟩
      · obtain ⟨rfl, _, rfl⟩ := split_unique h3.distinct (by simp [Rw.kv] : _ = q1.map Rw.kv ++ (.string r.name, .pointer (some ⟨r.bf, 0, none⟩)) :: q2.map Rw.kv) hk
        rw [List.map_append]; exact hm
      · exact absurd rfl (hk (Rw.kv r) (by simp))
    clear hd3
    have f3' : Frm (fun k => k = bm) s.w w3 := ((Frm.refl _ s.w).drew).trans f3 (fun _ _ h => h)
    have gg := Grew.trans g1 s.h
    have hne : ∀ k c t fr, s.w.heap[k]? = some (.cells c t fr) → k ≠ bm := by
      intro k c t fr hk e
      subst e
      obtain ⟨es, cl, hb, _⟩ := h3.keepG gg
      rw [hb] at hk; cases hk
    have b1 := f3'.keep (gg.keepG h1) (hne _ _ _ _ (gg.keepG h1))
    have b2 := f3'.keep (s.h.keepG hbx) (hne _ _ _ _ (s.h.keepG hbx))
    have b3 := f3'.keep (gg.keepG hbn) (hne _ _ _ _ (gg.keepG hbn))
    have c1 := cell_is b1 1 _ rfl
    have c2 := cell_is b2 0 _ rfl
    have c3 := cell_is b3 1 _ rfl
    go_wp2_with fail
    go_still_tail 9, (by kernel_rfl)
    refine wpList_mapPut rfl _ _ _ 58 65 rfl strKey Try.underlying58 bm ((q1 ++ q2).map Rw.kv) rfl (hm3.of_eq rfl) (.string nm2) (.pointer (some ⟨r.bf, 0, none⟩)) _ rfl rfl (keyS hnm2) (fun w4 f4 z4 hd4 => ?_)
    have f4' : Frm (fun k => k = bm) s.w w4 := f3'.trans (((Frm.refl _ w3).drew).trans f4 (fun _ _ h => h)) (fun _ _ h => h)
    have hnn := (mid_names (names_of_kv h3.distinct)).1
    have hfd : MD.find D.files r.name = some r.f := by rw [H5.out]; exact find_rows hnn
    have hdel : MD.del D.files r.name = (q1 ++ q2).map nf := by rw [H5.out, del_rows hnn]; (try simp)
    have hput : ∃ pre mid post : List Rw, q1 ++ q2 = pre ++ mid ++ post ∧ MapB Try.prog 9 w4 bm ((pre ++ ({ r with name := nm2 } : Rw) :: post).map Rw.kv) ∧ MD.put ((q1 ++ q2).map nf) nm2 r.f = (pre ++ ({ r with name := nm2 } : Rw) :: post).map nf := by
      rcases hd4 with ⟨pre, v0, post, hk, hm⟩ | ⟨hk, hm⟩
      · obtain ⟨p1, x, p2, e1, rfl, rfl, hx, _⟩ := row_of_kv hk
        obtain rfl : nm2 = x.name := by injection hx
        refine ⟨p1, [x], p2, by rw [e1]; simp, by simpa [Rw.kv] using hm, ?_⟩
        rw [e1, put_rows (mid_names (names_of_kv (e1 ▸ hm3.distinct))).1]
        simp [nf]
      · refine ⟨q1 ++ q2, [], [], by simp, by simpa [Rw.kv] using hm, ?_⟩
        rw [put_none (absent_rows hk)]
        simp [nf]
    obtain ⟨pre, mid, post, hb1, hb2, hb3⟩ := hput
    have Hb := Lib.hid (And.intro hb1 (And.intro hb2 hb3))
    have Hdel := Lib.hid hdel
    have Hfd := Lib.hid hfd
    clear hd4 hb1 hb2 hb3 hdel hfd
    go_wp2_with fail
    go_ret
    have hm : MD.renameIn D r.name nm2 = (0, { D with files := (pre ++ ({ r with name := nm2 } : Rw) :: post).map nf }) := by
      unfold MD.renameIn
      rw [Hfd.out, Hdel.out]
      simp only [Hb.out.2.2]
    obtain ⟨k1, k2, k3⟩ := disk_ren (nm := nm2) Hb.out.1 hnm2 h1 h2 h4 hnd H5.out hok gg f4' Hb.out.2.1
    exact DiskPost.mk 0 _ hm rfl k1 (by rw [HS.out]; exact k2) (fun k hk => .inl (by rw [HS.out]; exact k3 k hk))
  · have el : ∀ s : Ext w1, (Instr.lookup 58 (.map (some bm)) (.string nm) false).run Try.prog s.w = .ok (.pointer none) s.w := fun s => hlk s.w (Grew.trans g1 s.h |>.block bm h3.lt (fun f => f))
    have hfd : MD.find D.files nm = none := by rw [H5.out]; exact find_none (absent_rows habs)
    have hm : MD.renameIn D nm nm2 = (7, D) := by unfold MD.renameIn; rw [hfd]
    clear hlk habs
    have Hfd := Lib.hid hfd
    have Hm := Lib.hid hm
    clear hfd hm
    refine wp_region_ext _ (by kernel_rfl) (by kernel_rfl) ?_
    repeat (go_big_quiet_step (fail))
    refine wpQuiet_nil ?_
    intro s
    go_wp2_with fail
    go_ret
    exact DiskPost.same 7 hD0 Hm.out rfl (Grew.trans g1 s.h) (hD0.keepG (Grew.trans g1 s.h))
end Go.Proofs.Ytjcjajpndchfdaa
