/- Disk.write, behind the gate. -/
import Derived.Test.YtjcjajpndchfdaaR
namespace Go.Proofs.Ytjcjajpndchfdaa
open Go.RowKit

set_option maxRecDepth 100000 in
set_option maxHeartbeats 1000000 in
theorem write_spec (w : World) (bd : Nat) (D : MD) (S : List Nat) (hD : DiskAt w bd D S) (nm : ByteArray) (hnm : nm.size ≤ 64) (bn : Nat) (hbn : w.heap[bn]? = some (.cells #[.string nm] 9 (0, 0))) (hbnS : bn ∉ S)
    (n : Int) (pv : Value) (p : List UInt8) (hp : Bytes w pv p) (hpS : ∀ k, rdBlock pv = some k → k ∉ S) (hpl : p.length ≤ 70368744177664) :
    Calls Try.prog 30 #[.pointer (some ⟨bd, 0, none⟩), .agg #[.slice (some ⟨bn, 0, none⟩) 1 1, .int .i64 n, pv]] w (DiskPost w bd S (MD.writeIn D nm p)) := by
  have hD0 := hD
  obtain ⟨bm, fused, left, rows, h1, h2, h3, h4, h5, rfl, hnd, hok⟩ := hD
  obtain ⟨pa, pc, rfl, hp1, hp2, hp3⟩ := hp.shape
  have hroom := hok.room
  have hused := hok.used
  have H5 := Lib.hid h5
  clear h5
  go_enter Try.func30, Try.ntmps30
  go_wp2_with fail
  generalize hw1 : World.alloc w _ = w1
  have g1 : Grew w w1 := hw1 ▸ grew_alloc w _
  have hbx : w1.heap[w.heap.size]? = some (.cells #[.slice (some ⟨bn, 0, none⟩) 1 1, .int .i64 n, .slice pa p.length pc] 64 (0, 0)) := hw1 ▸ heap_alloc_new' w _
  generalize hbxe : w.heap.size = bx at *
  clear hw1
  refine wp_ext fun s => ?_
  have e1 := ext_cell (g1.keepG h1) 0 _ rfl
  have e2 := ext_cell (g1.keepG h1) 1 _ rfl
  have e3 := ext_cell hbx 0 _ rfl
  have e4 := ext_cell hbx 2 _ rfl
  have e5 := ext_cell (g1.keepG hbn) 0 _ rfl
  rcases map_look' h3 strKey Try.underlying58 zeroFile (keyS hnm) with ⟨pre, v, post, hsp, hlk⟩ | ⟨habs, hlk⟩
  · obtain ⟨q1, r, q2, rfl, rfl, rfl, hrn, rfl⟩ := row_of_kv hsp
    obtain rfl : nm = r.name := by injection hrn
    clear hrn
    have el : ∀ s : Ext w1, (Instr.lookup 58 (.map (some bm)) (.string r.name) false).run Try.prog s.w = .ok (.pointer (some ⟨r.bf, 0, none⟩)) s.w := fun s => hlk s.w (Grew.trans g1 s.h |>.block bm h3.lt (fun f => f))
    refine wp_region_ext _ (by kernel_rfl) (by kernel_rfl) ?_
    repeat (go_big_quiet_step (fail))
    refine wpQuiet_nil ?_
    intro s
    go_wp2_with fail
    have hD1 := hD0.keepG g1
    by_cases hfull : D.room < MD.used D.files + p.length
    · have hdec : decide ((D.room : Int) - (MD.used D.files : Int) < (p.length : Int)) = true := decide_eq_true (by omega)
      refine wp_region_ext _ (by kernel_rfl) (by kernel_rfl) ?_
      repeat (go_big_quiet_step (exact Calls.ext (dUsed_spec _ _ _ _ (hD1.keepG (Ext.h _)))))
      refine wpQuiet_nil ?_
      intro s
      go_wp2_with fail
      go_ret
      have hm : MD.writeIn D r.name p = (6, D) := by unfold MD.writeIn; rw [if_pos (.inl hfull)]
      exact DiskPost.same 6 hD0 hm rfl (Grew.trans g1 s.h) (hD1.keepG s.h)
    · have hdec : decide ((D.room : Int) - (MD.used D.files : Int) < (p.length : Int)) = false := decide_eq_false (by omega)
      refine wp_region_ext _ (by kernel_rfl) (by kernel_rfl) ?_
      repeat (go_big_quiet_step (exact Calls.ext (dUsed_spec _ _ _ _ (hD1.keepG (Ext.h _)))))
      refine wpQuiet_nil ?_
      intro s
      have hf1 := (h4 r (by simp)).keepG g1
      have e6 := ext_cell hf1.1 0 _ rfl
      have hp1' := hp.keepG g1
      have hnb := nb_of_nodup hnd
      have hlen : r.f.data.length ≤ 1073741824 := by
        have := H5.out
        rw [this, used_rows, sum_perm_mid] at hused
        omega
      go_wp2_with fail
      go_region_law (
        (refine step_appendB r.dv (.slice pa p.length pc) r.f.data p rfl _ _ rfl rfl rfl ((hf1.2.keepG (Ext.h _)).of_eq (fun _ _ => rfl)) ((hp1'.keepG (Ext.h _)).of_eq (fun _ _ => rfl)) (by omega) ?_
         intro v' w3 a1 a2 a3 a4
         obtain ⟨va, vc, rfl, _, _, _⟩ := a1.rd.shape
         have hb3 : w3.heap[r.bf]? = some (.cells #[r.dv, .int .i64 r.f.lasts] 67 (0, 0)) := a2.keep ((Ext.h _).keep hf1.1 (fun f => f)) (fun e => hnb _ e rfl)
         have c3 := cell_of hb3 0
         have f3 := frozen_of hb3 0))
      all_goals go_wp2_with fail
      all_goals go_ret
      all_goals
        have hnn := (mid_names (names_of_kv h3.distinct)).1
        have hfd : MD.find D.files r.name = some r.f := by rw [H5.out]; exact find_rows hnn
        have hm : MD.writeIn D r.name p = (0, { D with files := MD.put D.files r.name ⟨r.f.data ++ p, r.f.lasts⟩ }) := by
          unfold MD.writeIn
          rw [if_neg (by rw [hfd]; simp; omega), hfd]; rfl
        have hlasts := hok.lasts (r.name, r.f) (by rw [H5.out]; simp)
        obtain ⟨S', k1, k2, k3⟩ := disk_store (p := q1) (q := q2) h1 h2 h3 h4 hnd H5.out hok ((Grew.trans g1 (Ext.h _)).drew) a1 a2 a3 (by simp; simp at hlasts; omega) (by simp; omega)
        rw [List.length_append] at k1 k2
        exact DiskPost.mk 0 _ hm rfl k1 k2 k3
  · have el : ∀ s : Ext w1, (Instr.lookup 58 (.map (some bm)) (.string nm) false).run Try.prog s.w = .ok (.pointer none) s.w := fun s => hlk s.w (Grew.trans g1 s.h |>.block bm h3.lt (fun f => f))
    have hfd : MD.find D.files nm = none := by rw [H5.out]; exact find_none (absent_rows habs)
    have elen : ∀ s : Ext w1, (Builtin.len_ #[58] 3 #[.map (some bm)]).run Try.prog s.w = .ok (.int .i64 (rows.length : Int)) s.w := fun s => by
      have := map_len (ty := 3) (h3.keepG (Grew.trans g1 s.h)) Try.underlying58
      simpa using this
    have Hlk := Lib.hid hlk
    have Habs := Lib.hid habs
    clear hlk habs
    refine wp_region_ext _ (by kernel_rfl) (by kernel_rfl) ?_
    repeat (go_big_quiet_step (fail))
    refine wpQuiet_nil ?_
    intro s
    go_wp2_with fail
    have hD1 := hD0.keepG g1
    by_cases hfull : D.room < MD.used D.files + p.length
    · have hdec : decide ((D.room : Int) - (MD.used D.files : Int) < (p.length : Int)) = true := decide_eq_true (by omega)
      refine wp_region_ext _ (by kernel_rfl) (by kernel_rfl) ?_
      repeat (go_big_quiet_step (exact Calls.ext (dUsed_spec _ _ _ _ (hD1.keepG (Ext.h _)))))
      refine wpQuiet_nil ?_
      intro s
      go_wp2_with fail
      go_ret
      have hm : MD.writeIn D nm p = (6, D) := by unfold MD.writeIn; rw [if_pos (.inl hfull)]
      exact DiskPost.same 6 hD0 hm rfl (Grew.trans g1 s.h) (hD1.keepG s.h)
    · have hdec : decide ((D.room : Int) - (MD.used D.files : Int) < (p.length : Int)) = false := decide_eq_false (by omega)
      by_cases hmany : 4096 ≤ rows.length
      · have hdec2 : decide ((4096 : Int) ≤ (rows.length : Int)) = true := decide_eq_true (by omega)
        refine wp_region_ext _ (by kernel_rfl) (by kernel_rfl) ?_
        repeat (go_big_quiet_step (exact Calls.ext (dUsed_spec _ _ _ _ (hD1.keepG (Ext.h _)))))
        refine wpQuiet_nil ?_
        intro s
        go_wp2_with fail
        go_ret
        have hm : MD.writeIn D nm p = (6, D) := by unfold MD.writeIn; rw [if_pos (.inr ⟨hfd, by rw [H5.out]; simpa using hmany⟩)]
        exact DiskPost.same 6 hD0 hm rfl (Grew.trans g1 s.h) (hD1.keepG s.h)
      · have hdec2 : decide ((4096 : Int) ≤ (rows.length : Int)) = false := decide_eq_false (by omega)
        refine wp_region_ext _ (by kernel_rfl) (by kernel_rfl) ?_
        repeat (go_big_quiet_step (exact Calls.ext (dUsed_spec _ _ _ _ (hD1.keepG (Ext.h _)))))
        refine wpQuiet_nil ?_
        intro s
        go_wp2_with fail
        generalize hw2 : World.alloc (Ext.w _) _ = w2
        have hsz := Nat.le_trans g1.size s.h.size
        have g2 : Grew s.w w2 := hw2 ▸ grew_alloc s.w _
        have hbf : w2.heap[s.w.heap.size]? = some (.cells #[.slice none 0 0, .int .i64 0] 67 (0, 0)) := hw2 ▸ heap_alloc_new' s.w _
        have gg := Grew.trans g1 (Grew.trans s.h g2)
        have hbf0 : w.heap.size ≤ s.w.heap.size := hsz
        generalize s.w.heap.size = bf at *
        clear hw2
        have hbx2 := (Grew.trans s.h g2).keepG hbx
        have hbd2 := gg.keepG h1
        have hbn2 := gg.keepG hbn
        have c1 := cell_is hbx2 0 _ rfl
        have c2 := cell_is hbd2 1 _ rfl
        have c3 := cell_is hbn2 0 _ rfl
        go_still_tail 9, (by kernel_rfl)
        refine wpList_mapPut rfl _ _ _ 58 65 rfl strKey Try.underlying58 bm (rows.map Rw.kv) rfl ((h3.keepG gg).of_eq rfl) (.string nm) (.pointer (some ⟨bf, 0, none⟩)) _ rfl rfl (keyS hnm) (fun w3 f3 z3 hd3 => ?_)
        have hm3 : MapB Try.prog 9 w3 bm (rows.map Rw.kv ++ [(.string nm, .pointer (some ⟨bf, 0, none⟩))]) := by
          rcases hd3 with ⟨pre, v0, post, hk, _⟩ | ⟨_, hk⟩
          · exact absurd rfl (Habs.out (.string nm, v0) (by rw [hk]; simp))
          · exact hk
        have f3' : Frm (fun k => k = bm) w2 w3 := ((Frm.refl _ w2).drew).trans f3 (fun _ _ h => h)
        clear hd3 f3
        obtain ⟨d1, d2, d3, d4, d5⟩ := disk_new h1 h3 h4 hnd H5.out hok hnm (by omega) gg hbf0 hbf f3' hm3
        have hbmne : ∀ k, w2.heap[k]? ≠ none → (∃ c t fr, w2.heap[k]? = some (.cells c t fr)) → k ≠ bm := by
          intro k _ ⟨c, t, fr, hk⟩ e
          subst e
          obtain ⟨es, cl, hb, _⟩ := h3.keepG gg
          rw [hb] at hk; cases hk
        have hbx3 := f3'.keep hbx2 (hbmne _ (by rw [hbx2]; simp) ⟨_, _, _, hbx2⟩)
        have hbf3 := f3'.keep hbf (hbmne _ (by rw [hbf]; simp) ⟨_, _, _, hbf⟩)
        have c4 := cell_is hbx3 2 _ rfl
        have c5 := cell_is hbf3 0 _ rfl
        have hp3 := (hp.keepG gg).keep f3' (fun k hk e => hpS k hk (by simp [e]))
        have Hm3 := Lib.hid hm3
        clear hm3 hbmne c1 c2 c3
        go_wp2_with fail
        go_region_law (
          (refine step_appendB (.slice none 0 0) (.slice pa p.length pc) [] p rfl _ _ rfl rfl rfl (Own.nil _ 5 1) (hp3.of_eq (fun _ _ => rfl)) (by simp; omega) ?_
           intro v' w4 a1 a2 a3 a4
           obtain ⟨va, vc, rfl, _, _, _⟩ := a1.rd.shape
           have hb4 : w4.heap[bf]? = some (.cells #[.slice none 0 0, .int .i64 0] 67 (0, 0)) := a2.keep hbf3 (fun e => by cases e)
           have c6 := cell_is hb4 0 _ rfl
           have f6 := frozen_of hb4 0))
        all_goals go_wp2_with fail
        all_goals go_ret
        all_goals
          have hab := absent_rows Habs.out
          have hm : MD.writeIn D nm p = (0, { D with files := MD.put D.files nm ⟨p, 0⟩ }) := by
            unfold MD.writeIn
            rw [if_neg (by rw [H5.out] at hfull ⊢; simp at hfull ⊢; omega), hfd]; rfl
          obtain ⟨S', k1, k2, k3⟩ := disk_store (D := { D with files := D.files ++ [(nm, ⟨[], 0⟩)] }) (p := rows) (q := []) (r := ⟨nm, bf, .slice none 0 0, ⟨[], 0⟩⟩) d1 h2 d2 d3 d4 (by rw [H5.out]; simp) d5 ((Frm.refl _ w3).drew) a1 a2 a3 (Nat.zero_le _) (by rw [used_append]; simp [MD.used] at hfull ⊢; omega)
          simp only [List.length_append, List.length_nil, Nat.zero_add] at k1 k2
          have hfe : MD.put (D.files ++ [(nm, ⟨[], 0⟩)]) nm ⟨p, 0⟩ = MD.put D.files nm ⟨p, 0⟩ := by
            rw [H5.out, put_last hab, put_none hab]
          have k1' : DiskAt _ bd { D with files := MD.put (D.files ++ [(nm, ⟨[], 0⟩)]) nm ⟨p, 0⟩ } S' := k1
          rw [hfe] at k1'
          have hS1 : ∀ k, k ∈ bd :: bm :: (rows ++ [Rw.mk nm bf (.slice none 0 0) ⟨[], 0⟩]).flatMap Rw.blocks → k ∈ bd :: bm :: rows.flatMap Rw.blocks ∨ w.heap.size ≤ k := by
            intro k hk
            simp only [List.flatMap_append, List.mem_cons, List.mem_append] at hk ⊢
            rcases hk with rfl | rfl | hk | hk
            · exact .inl (.inl rfl)
            · exact .inl (.inr (.inl rfl))
            · exact .inl (.inr (.inr hk))
            · simp [Rw.blocks, Value.ownBlock] at hk; subst hk; exact .inr hbf0
          refine DiskPost.mk 0 _ hm rfl k1' ((Grew.trans gg (f3'.mono (T := (· ∈ bd :: bm :: rows.flatMap Rw.blocks)) (fun k _ e => by simp [e]))).trans k2 (fun k hk h => ?_)) (fun k hk => ?_)
          · rcases hS1 k h with h | h
            · exact h
            · omega
          · rcases k3 k hk with h | h
            · exact hS1 k h
            · exact .inr (Nat.le_trans gg.size (Nat.le_trans f3'.size h))
end Go.Proofs.Ytjcjajpndchfdaa
