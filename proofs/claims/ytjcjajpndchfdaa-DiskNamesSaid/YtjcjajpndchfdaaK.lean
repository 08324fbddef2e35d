/- Crash. -/
import Derived.Test.YtjcjajpndchfdaaT
namespace Go.Proofs.Ytjcjajpndchfdaa
open Go.RowKit

/-- what has become of a row while the crash goes on: left: the rows that are still to come -/
structure CrashAt (w : World) (keep : Int) (tear : UInt8) (rows left : List Rw) (g : Rw → Rw) : Prop where
  name : ∀ r ∈ rows, (g r).name = r.name
  bf : ∀ r ∈ rows, (g r).bf = r.bf
  own : ∀ r ∈ rows, (g r).dv.ownBlock = r.dv.ownBlock
  here : ∀ r ∈ rows, r ∈ left → g r = r
  gone : ∀ r ∈ rows, r ∉ left → (g r).f = MD.crashF keep tear r.f
  ok : ∀ r ∈ rows, FileOk w (g r)

/-- one row more is done -/
def crashG (g : Rw → Rw) (r r' x : Rw) : Rw := if x.name = r.name then r' else g x

theorem run_max_mm {P : Program} {w : World} (ts : Array TypeId) (t : TypeId) (k : IntKind) (x y : Int) : (Builtin.max_ ts t #[.int k x, .int k y]).run P w = .ok (.int k (max x y)) w := by
  rw [run_max_int2]
  have e : (if y > x then y else x) = max x y := by
    by_cases h : y > x
    · rw [if_pos h]; omega
    · rw [if_neg h]; omega
  rw [e]
attribute [local go_sem ↓] run_max_mm

set_option maxRecDepth 100000 in
set_option maxHeartbeats 1000000 in
theorem dCrash_spec (w : World) (bd : Nat) (D : MD) (S : List Nat) (hD : DiskAt w bd D S) (keep : Int) (hkeep : keep ≤ 9223372036854775807) (tear : UInt8) :
    Calls Try.prog 13 #[.pointer (some ⟨bd, 0, none⟩), .int .i64 keep, .int .u8 (tear.toNat : Int)] w (FusePost w bd (MD.crash D keep tear) S) := by
  have hD0 := hD
  obtain ⟨bm, fused, left, rows, h1, h2, h3, h4, h5, hS, hnd, hok⟩ := hD
  rw [hS] at hnd
  have HS := Lib.hid hS
  have H5 := Lib.hid h5
  clear hS h5
  have hnn := names_of_kv h3.distinct
  have c1 := cell_is h1 1 _ rfl
  go_enter Try.func13, Try.ntmps13
  go_wp2_with (at_range; refine wpList_range rfl _ 58 65 rfl Try.underlying58 bm _ rfl h3 ?_; intro w1 g1 z1 r1)
  go_frame
  go_loopg [7, 8, 9, 10] rows.length (fun gk _ _ _ _ wr => ∃ (lf : List Rw) (g : Rw → Rw), lf.length = gk ∧ RangeB Try.prog 9 wr w.heap.size bm (rows.map Rw.kv) (lf.map Rw.kv) ∧ (∀ r ∈ lf, r ∈ rows) ∧ lf.Nodup ∧ CrashAt wr keep tear rows lf g ∧ Frm (fun k => k ∈ rows.flatMap Rw.blocks) w wr)
  case atStart =>
    refine ⟨rows, id, rfl, r1, fun _ h => h, rows_nodup hnn, ⟨fun _ _ => rfl, fun _ _ => rfl, fun _ _ => rfl, fun _ _ _ => rfl, fun r h1 h2 => absurd h1 h2, fun r hr => (h4 r hr).keepG g1⟩, Frm.of_grew g1⟩
  case round =>
    obtain ⟨lf, g, hl, hr, hsub, hlnd, hC, hfr⟩ := hrel
    have hbd : wr.heap[bd]? = some (.cells #[.int .i64 D.room, .map (some bm), .bool fused, .int .i64 left] 60 (0, 0)) := hfr.keep h1 (fun h => (List.nodup_cons.1 hnd).1 (by simp only [List.mem_cons]; exact .inr h))
    have cd2 := cell_is hbd 2 _ rfl
    have fd2 := frozen_of hbd 2
    go_wp2_with
      (at_next
       refine wpList_nextRow rfl _ rfl _ _ _ _ rfl hr (fun hnil => ?_) (fun p r q w2 hsp f2 z2 r2 hen => ?_)
       rotate_left
       subst hsp
       have hrr := hsub r (by simp)
       have hne : ∀ k ∈ r.blocks, k ≠ w.heap.size := by
         intro k hk e
         have hin : k ∈ rows.flatMap Rw.blocks := List.mem_flatMap.2 ⟨r, hrr, hk⟩
         have := hD0.lt k (by rw [HS.out]; simp only [List.mem_cons]; exact .inr (.inr hin))
         omega
       have hneit : ¬ (w.heap.size ∈ r.blocks) := fun h => hne _ h rfl
       have hnebm : ¬ (bm ∈ r.blocks) := fun h => (List.nodup_cons.1 (List.nodup_cons.1 hnd).2).1 (List.mem_flatMap.2 ⟨r, hrr, h⟩)
       have hf : FileOk w2 r := by
         have := hC.ok r hrr
         rw [hC.here r hrr (by simp)] at this
         exact this.keep f2 hne
       rotate_right)
    · subst hnil
      go_end0
      have hbs : (rows.map g).flatMap Rw.blocks = rows.flatMap Rw.blocks := by
        refine blocks_map (fun x hx => ?_)
        unfold Rw.blocks; rw [hC.bf x hx, hC.own x hx]
      have n1 := (List.nodup_cons.1 hnd).1
      have hfb : Frm (fun k => k = bd) wr (wr.setCell ⟨bd, 2, none⟩ (.bool false)) := (Frm.refl (fun k => k = bd) wr).setCell (p := ⟨bd, 2, none⟩) (fun _ => rfl) _
      refine ⟨rfl, ⟨bm, false, left, rows.map g, ?_, rfl, ?_, ?_, ?_, ?_, ?_, crash_ok hok keep tear⟩, ?_⟩
      · rw [heap_setCell_eq hbd]; rfl
      · have e : (rows.map g).map Rw.kv = rows.map Rw.kv := by
          rw [List.map_map]
          refine List.map_congr_left (fun x hx => ?_)
          simp only [Function.comp, Rw.kv]; rw [hC.name x hx, hC.bf x hx]
        rw [e]
        exact hr.map.keep hfb (fun e => n1 (by simp [e]))
      · intro x hx
        obtain ⟨y, hy, rfl⟩ := List.mem_map.1 hx
        refine (hC.ok y hy).keep hfb (fun k hk e => n1 ?_)
        rw [← e]
        simp only [List.mem_cons]
        exact .inr (hbs ▸ List.mem_flatMap.2 ⟨g y, List.mem_map.2 ⟨y, hy, rfl⟩, hk⟩)
      · show (D.files.map fun p => (p.1, MD.crashF keep tear p.2)) = _
        rw [H5.out, List.map_map, List.map_map]
        refine List.map_congr_left (fun x hx => ?_)
        simp only [Function.comp]
        rw [hC.name x hx, hC.gone x hx (by simp)]
      · rw [hbs]; exact HS.out
      · rw [HS.out]; exact hnd
      · refine (hfr.mono (fun k _ hk => ?_)).trans hfb (fun k _ e => ?_)
        · rw [HS.out]; simp only [List.mem_cons]; exact .inr (.inr hk)
        · rw [HS.out, e]; simp
    · refine wp_ext fun s => ?_
      obtain ⟨da, dc, hdv, hd1, hd2, hd3⟩ := hf.2.rd.shape
      have hlen := data_le hok (by rw [H5.out]; exact List.mem_map.2 ⟨r, hrr, rfl⟩ : (r.name, r.f) ∈ D.files)
      have hlast := hok.lasts (r.name, r.f) (by rw [H5.out]; exact List.mem_map.2 ⟨r, hrr, rfl⟩)
      simp only at hlast
      have e0 : ∀ s : Ext w2, s.w.cell? ⟨r.bf, 0, none⟩ = some (.slice da r.f.data.length dc) := hdv ▸ ext_cell hf.1 0 _ rfl
      have e1 := ext_cell hf.1 1 _ rfl
      obtain ⟨m, hm, hm2⟩ : ∃ m : Nat, (max 0 keep) % ((r.f.data.length : Int) - (r.f.lasts : Int) + 1) = (m : Int) ∧ m ≤ r.f.data.length - r.f.lasts := by
        refine ⟨((max 0 keep) % ((r.f.data.length : Int) - (r.f.lasts : Int) + 1)).toNat, ?_, ?_⟩
        · rw [Int.toNat_of_nonneg (Int.emod_nonneg _ (by omega))]
        · have := Int.emod_lt_of_pos (max 0 keep) (show 0 < (r.f.data.length : Int) - (r.f.lasts : Int) + 1 by omega)
          omega
      have fz0 := ext_frozen hf.1 0
      have fz1 := ext_frozen hf.1 1
      have hnb := nb_of_nodup (bd := bd) (bm := bm) (p := [r]) (q := []) (r := r)
      refine wp_region_ext _ (by kernel_rfl) (by kernel_rfl) ?_
      repeat (go_big_quiet_step (fail))
      refine wpQuiet_nil ?_
      intro s
      go_wp2_with fail
      have hst : r.f.lasts + m ≤ r.f.data.length := by omega
      simp only [torn_from]
      generalize hi0 : max r.f.lasts ((r.f.lasts + m - 1) / 32 * 32) = i0
      have hi1 : i0 ≤ r.f.lasts + m := by omega
      have hnbr : ∀ k, r.dv.ownBlock = some k → k ≠ r.bf := by
        obtain ⟨p1, p2, hp⟩ := List.append_of_mem hrr
        rw [hp] at hnd
        exact nb_of_nodup hnd
      have hll : (r.f.data.take (r.f.lasts + m)).length = r.f.lasts + m := by simp; omega
      have hda : (Value.slice da (r.f.lasts + m) (r.f.lasts + m)).ownBlock = r.dv.ownBlock := by rw [hdv]; cases da <;> rfl
      have hW : OwnB (s.w.setCell ⟨r.bf, 0, none⟩ (.slice da (r.f.lasts + m) (r.f.lasts + m))) (.slice da (r.f.lasts + m) (r.f.lasts + m)) (r.f.data.take (r.f.lasts + m)) := by
        have h0 := OwnB.cut (hdv ▸ (hf.2.keepG s.h)) hst
        exact h0.of_eq (fun k hk => heap_setCell_ne _ _ _ _ (hnbr k (by rw [← hda]; exact hk)))
      have hWb : (s.w.setCell ⟨r.bf, 0, none⟩ (.slice da (r.f.lasts + m) (r.f.lasts + m))).heap[r.bf]? = some (.cells #[.slice da (r.f.lasts + m) (r.f.lasts + m), .int .i64 r.f.lasts] 67 (0, 0)) := by
        rw [heap_setCell_eq (s.h.keepG hf.1)]; rfl
      have hWf : Frm (fun k => k ∈ r.blocks) w2 (s.w.setCell ⟨r.bf, 0, none⟩ (.slice da (r.f.lasts + m) (r.f.lasts + m))) := (Frm.of_grew s.h).setCell (p := ⟨r.bf, 0, none⟩) (fun _ => by simp [Rw.blocks]) _
      have Hi0 := Lib.hid hi0
      have Hda := Lib.hid hda
      have Hm := Lib.hid hm
      have Hll := Lib.hid hll
      have Hdv := Lib.hid hdv
      clear hi0 hda hm e0 e1 fz0 fz1 hen hnb hll hdv
      go_loopg [10] (r.f.lasts + m + 1 - i0) (fun gk i wi => ∃ j : Nat, i0 ≤ j ∧ j ≤ r.f.lasts + m ∧ gk + j = r.f.lasts + m + 1 ∧ i = .int .i64 j ∧ OwnB wi (.slice da (r.f.lasts + m) (r.f.lasts + m)) (torn tear i0 j (r.f.data.take (r.f.lasts + m))) ∧
        wi.heap[r.bf]? = some (.cells #[.slice da (r.f.lasts + m) (r.f.lasts + m), .int .i64 r.f.lasts] 67 (0, 0)) ∧ Frm (fun k => k ∈ r.blocks) w2 wi)
      case atStart =>
        exact ⟨i0, Nat.le_refl _, hi1, by omega, rfl, by rw [torn_start]; exact hW, hWb, hWf⟩
      case round =>
        obtain ⟨j, hj0, hj1, hgk, rfl, hown, hbf, hfr2⟩ := hrel
        have Hgk := Lib.hid hgk
        clear hgk
        have cd := cell_is hbf 0 _ rfl
        have fd := frozen_of hbf 1
        have cd1 := cell_is hbf 1 _ rfl
        have htl : (torn tear i0 j (r.f.data.take (r.f.lasts + m))).length = r.f.lasts + m := (torn_length _ _ _ _).trans Hll.out
        by_cases hlt : j < r.f.lasts + m
        · have hjt : j < (r.f.data.take (r.f.lasts + m)).length := by rw [Hll.out]; exact hlt
          have hown' : OwnB wr (.slice da (torn tear i0 j (r.f.data.take (r.f.lasts + m))).length (r.f.lasts + m)) (torn tear i0 j (r.f.data.take (r.f.lasts + m))) := by rw [htl]; exact hown
          obtain ⟨g', rfl⟩ := hown'.addr (by omega)
          have hcj := bytes_cell hown'.rd j (by omega)
          rw [torn_at _ _ _ _ hjt, Nat.zero_add] at hcj
          have hfj := hown'.frozen j
          have hst' := hown'.store (j := j) (by omega) ((r.f.data.take (r.f.lasts + m))[j] ^^^ tear)
          rw [torn_step _ _ _ _ hj0 hjt, htl] at hst'
          have Hst := Lib.hid hst'
          clear hst' htl hown hown'
          generalize (r.f.data.take (r.f.lasts + m))[j] = x at *
          go_wp2_with fail
          go_roundg (gk - 1)
          case measure => have := Hgk.out; omega
          case rel =>
            have hgne : g' ≠ r.bf := hnbr g' (by rw [← Hda.out]; rfl)
            have hgin : g' ∈ r.blocks := by
              have : r.dv.ownBlock = some g' := by rw [← Hda.out]; rfl
              simp [Rw.blocks, this]
            refine ⟨j + 1, by omega, by omega, by have := Hgk.out; omega, by go_num, ?_, ?_, ?_⟩
            · rw [xor_cell]; exact Hst.out
            · rw [heap_setCell_ne _ _ _ _ (Ne.symm hgne)]; exact hbf
            · exact hfr2.setCell (p := ⟨g', j, none⟩) (fun _ => hgin) _
        · have hjj : j = r.f.lasts + m := by omega
          have Hjj := Lib.hid hjj
          clear hjj
          go_wp2_with fail
          go_roundg (p ++ q).length
          case measure => rw [← hl]; simp
          case rel =>
            have hcr := crashF_eq keep tear r.f m hlast Hm.out hst
            rw [Hi0.out] at hcr
            rw [Hjj.out] at hown
            have hfrw : Frm (fun k => k ∈ r.blocks) w2 (wr.setCell ⟨r.bf, 1, none⟩ (.int .i64 ((r.f.lasts : Int) + (m : Int)))) := hfr2.setCell (p := ⟨r.bf, 1, none⟩) (fun _ => by simp [Rw.blocks]) _
            refine ⟨p ++ q, crashG g r ⟨r.name, r.bf, .slice da (r.f.lasts + m) (r.f.lasts + m), MD.crashF keep tear r.f⟩, rfl, r2.keep hfrw hneit hnebm, fun x hx => hsub x (by simp at hx ⊢; rcases hx with h | h <;> simp [h]), ?_, ?_, ?_⟩
            · exact hlnd.sublist ((List.Sublist.refl _).append (List.sublist_cons_self _ _))
            · have hrnot : r ∉ p ++ q := by
                have h0 : (p ++ r :: q).Perm (r :: (p ++ q)) := List.perm_middle
                exact (List.nodup_cons.1 (h0.nodup_iff.1 hlnd)).1
              have hx : ∀ x ∈ rows, x.name = r.name → x = r := fun x hx e => name_inj hnn hx hrr e
              constructor
              · intro x hxr
                unfold crashG
                by_cases e : x.name = r.name
                · rw [if_pos e]; exact e.symm
                · rw [if_neg e]; exact hC.name x hxr
              · intro x hxr
                unfold crashG
                by_cases e : x.name = r.name
                · rw [if_pos e, hx x hxr e]
                · rw [if_neg e]; exact hC.bf x hxr
              · intro x hxr
                unfold crashG
                by_cases e : x.name = r.name
                · rw [if_pos e, hx x hxr e]; exact Hda.out
                · rw [if_neg e]; exact hC.own x hxr
              · intro x hxr hxl
                unfold crashG
                rw [if_neg (fun e => hrnot ((hx x hxr e) ▸ hxl))]
                exact hC.here x hxr (by simp at hxl ⊢; rcases hxl with h | h <;> simp [h])
              · intro x hxr hxl
                unfold crashG
                by_cases e : x.name = r.name
                · rw [if_pos e, hx x hxr e]
                · rw [if_neg e]
                  exact hC.gone x hxr (by
                    simp only [List.mem_append, List.mem_cons, not_or] at hxl ⊢
                    exact ⟨hxl.1, fun h => e (by rw [h]), hxl.2⟩)
              · intro x hxr
                unfold crashG
                by_cases e : x.name = r.name
                · rw [if_pos e, hcr]
                  refine ⟨?_, ?_⟩
                  · rw [heap_setCell_eq hbf]; simp
                  · have hl0 : (torn tear i0 (r.f.lasts + m) (r.f.data.take (r.f.lasts + m))).length = r.f.lasts + m := by rw [Hjj.out] at htl; exact htl
                    have hown2 : OwnB wr (.slice da (r.f.lasts + m) (r.f.lasts + m)) (torn tear i0 (r.f.lasts + m) (r.f.data.take (r.f.lasts + m))) := hown
                    exact hown2.of_eq (fun k hk => heap_setCell_ne _ _ _ _ (hnbr k (by rw [← Hda.out]; exact hk)))
                · rw [if_neg e]
                  have hxne : x ≠ r := fun h => e (by rw [h])
                  have hbl : (g x).blocks = x.blocks := by unfold Rw.blocks; rw [hC.bf x hxr, hC.own x hxr]
                  refine ((hC.ok x hxr).keep f2 ?_).keep hfrw ?_
                  · intro k hk e'
                    rw [hbl] at hk
                    have hin : k ∈ rows.flatMap Rw.blocks := List.mem_flatMap.2 ⟨x, hxr, hk⟩
                    have := hD0.lt k (by rw [HS.out]; simp only [List.mem_cons]; exact .inr (.inr hin))
                    omega
                  · intro k hk
                    rw [hbl] at hk
                    exact blocks_apart hnd hxr hrr hxne k hk
            · refine (Frm.trans hfr f2 (fun k hk e => ?_)).trans hfrw (fun k _ hk => List.mem_flatMap.2 ⟨r, hrr, hk⟩)
              omega
end Go.Proofs.Ytjcjajpndchfdaa
