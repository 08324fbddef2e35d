/- The walk of DiskRoom. -/
import Derived.Test.YtjcjajpndchfdaaPR
import Derived.Deep.RegionHeld3
namespace Go.Proofs.Ytjcjajpndchfdaa
open Go.RowKit

theorem yielded_undef : yielded.match_1 (fun _ => Option Bool) (some undef) (fun b => some b) (fun _ => none) = none := rfl
attribute [local go_sem] yielded_undef

set_option maxRecDepth 100000 in
set_option linter.unusedSimpArgs false in
set_option maxHeartbeats 4000000 in
theorem room_walk (w : World) (v : Value) (vs : List Value) (L : List (List UInt8)) (hR : RowsAt w v vs L) (room : Int) (_hn1 : -9223372036854775808 ≤ room) (_hn2 : room ≤ 9223372036854775807)
    (hrows : ∀ l ∈ L, l.length ≤ 140737488351232) :
    Calls Try.prog 4 #[.int .i64 room, v] w (BoolPost w true) := by
  obtain ⟨ra, rc, rfl, r1, r2, r3⟩ := hR.rd.shape
  unfold maxLen at r2 r3
  have HR := Lib.hid hR
  have Hrows := Lib.hid hrows
  clear hR hrows
  go_enter Try.func4, Try.ntmps4
  go_wp2_with fail
  go_loopg [5, 6] (L.length + 1) (fun gk n i wr => ∃ j : Nat, j ≤ L.length ∧ gk + j = L.length + 1 ∧ i = .int .i64 j ∧ n = .int .i64 (tot (L.take j)) ∧ w = wr ∧ tot (L.take j) ≤ 140737488400000)
  case atStart => exact ⟨0, Nat.zero_le _, rfl, rfl, rfl, rfl, Nat.zero_le _⟩
  case round =>
    obtain ⟨j, hj, hgk, rfl, rfl, rfl, htb⟩ := hrel
    have Hgk := Lib.hid hgk
    clear hgk
    by_cases hlt : j < L.length
    · by_cases hmost : tot (L.take j) ≤ 8000
      · obtain ⟨g, off, rfl⟩ := HR.out.rd.addr (by omega) rfl
        obtain ⟨a, c, hc, hb⟩ := HR.out.at_ rfl j hlt
        have hlj := Hrows.out L[j] (List.getElem_mem hlt)
        have hts := tot_succ L j hlt
        have Hts := Lib.hid hts
        have Hb := Lib.hid hb
        clear hts hb
        go_wp2_with fail
        go_roundg (gk - 1)
        case measure => have := Hgk.out; omega
        case rel => exact ⟨j + 1, by omega, by have := Hgk.out; omega, by go_num, by rw [Hts.out]; exact congrArg (Value.int .i64) (by omega), rfl, by have := Hts.out; omega⟩
      · go_wp2_with
          (go_at_call 9;
           (with_reducible refine (known_spec _).mono ?_)
           rintro e w' ⟨rfl, hg⟩)
        go_ret
        exact ⟨rfl, hg⟩
    · have hjl : j = L.length := by omega
      subst hjl
      rw [List.take_length] at htb ⊢
      by_cases hmost : tot L ≤ 8000 ∧ ¬ room < 0 ∧ ¬ 5000 < room ∧ ¬ 60 < L.length
      · obtain ⟨hmost, hn0, hn5000, hn60⟩ := hmost
        obtain ⟨k, rfl⟩ : ∃ k : Nat, room = (k : Int) := ⟨room.toNat, by omega⟩
        go_wp2_with fail
        refine (dNew_spec _ k).mono ?_
        rintro e w1 hp
        unfold NewPost at hp
        rw [if_neg (by omega)] at hp
        obtain ⟨bd, S1, rfl, hd1, g1, hs1'⟩ := hp
        rw [Int.toNat_natCast] at hd1
        clear Hgk
        go_wp2_with fail
        go_loopg [4, 9, 10, 11, 12, 13, 14, 15, 16, 17] (L.length + 1) (fun gk _ i _ _ _ _ _ _ _ _ wr => ∃ (j : Nat) (D : MD) (S : List Nat), j ≤ L.length ∧ gk + j = L.length + 1 ∧ i = .int .i64 j ∧ DiskAt wr bd D S ∧ D.room = k ∧ D.fuse = none ∧ D.files.length ≤ j ∧ (∀ b ∈ S, w.heap.size ≤ b) ∧ Grew w wr)
        case atStart => exact ⟨0, ⟨k, [], none⟩, S1, Nat.zero_le _, rfl, rfl, hd1, rfl, rfl, Nat.zero_le _, hs1', g1⟩
        case round =>
          obtain ⟨j, D, S, hj, hgk, rfl, hd, hroom, hfuse, hfiles, hs, hg⟩ := hrel
          have Hgk := Lib.hid hgk
          clear hgk hd1 g1 hs1'
          have hused := hd.ok.used
          have Hd := Lib.hid hd
          have Hs := Lib.hid hs
          have Hg := Lib.hid hg
          have Hfuse := Lib.hid hfuse
          clear hd hs hfuse
          by_cases hlt : j < L.length
          · obtain ⟨g, off, rfl⟩ := HR.out.rd.addr (by omega) rfl
            obtain ⟨a, c, hc0, hb0⟩ := HR.out.at_ rfl j hlt
            have hc := hg.cellG hc0
            have hlj : L[j].length ≤ 8000 := by have h1 := tot_succ L j hlt; have h2 := tot_le L (j + 1); omega
            have Hbl := Lib.hid (hb0.lt)
            have Hb0 := Lib.hid hb0
            have Hc0 := Lib.hid hc0
            clear hc0 hb0 hg
            have hm3 : j % 3 < 3 := Nat.mod_lt _ (by omega)
            have kb : (convert 23 9 (.slice (some ⟨wr.heap.size, 0, none⟩) 2 2)).run Try.prog (wr.alloc (.cells #[.int .u8 102, .int .u8 ((j : Int) % 3)] 5)) = .ok (.string (nameAt (j % 3))) (wr.alloc (.cells #[.int .u8 102, .int .u8 ((j : Int) % 3)] 5)) :=
              name_convert wr j
            have hnk := nameAt_ok (j % 3)
            have hn2 : (nameAt (j % 3)).size = 2 := rfl
            go_wp2_with fail
            generalize hnm : nameAt (j % 3) = nm at hnk hn2 ⊢
            clear hm3 kb hnm
            have gA := grew_alloc wr (.cells #[.int .u8 102, .int .u8 ((j : Int) % 3)] 5)
            generalize wr.alloc (.cells #[.int .u8 102, .int .u8 ((j : Int) % 3)] 5) = wa at gA ⊢
            have HdA := Lib.hid (Hd.out.keepG gA)
            have HgA := Lib.hid (Grew.trans Hg.out gA)
            have hltA := Lib.hid HdA.out.lt
            clear Hd Hg gA hc
            refine (dRead_spec _ bd D S HdA.out nm (by omega)).mono ?_
            rintro e wb ⟨va, rfl, hva, gB, frB⟩
            have hwl := readData_le HdA.out.ok nm
            have Hva := Lib.hid hva
            have HfB := Lib.hid frB
            have HgB := Lib.hid gB
            clear hva frB gB
            go_wp2_with fail
            refine (dUsed_spec _ bd D S (HdA.out.keepG HgB.out)).mono ?_
            rintro e wc ⟨rfl, gC⟩
            have HgC := Lib.hid (Grew.trans HgB.out gC)
            have HvaC := Lib.hid (Hva.out.keepG gC)
            have hcC := HgC.out.cellG (HgA.out.cellG Hc0.out)
            clear gC HgB Hva
            go_wp2_with fail
            refine (dWrite_spec _ bd D S (HdA.out.keepG HgC.out) nm (by omega) _ L[j] (Hb0.out.keepG (Grew.trans HgA.out HgC.out)) (fun b hk hkS => by have h1 := Hbl.out b hk; have h2 := Hs.out b hkS; omega) (by omega)).mono ?_
            rintro e wd ⟨S4, rfl, hd4, f4, hs4⟩
            have gD : Grew w wd := grew_of_frm (Grew.trans HgA.out HgC.out) f4 Hs.out
            have hvaD := HvaC.out.keep f4 (fun b hb hbS => by have h1 := HfB.out b hb; have h2 := hltA.out b hbS; omega)
            have hs4' : ∀ b ∈ S4, w.heap.size ≤ b := fun b hb => (hs4 b hb).elim (Hs.out b) (fun h => by have h1 := HgA.out.size; have h2 := HgC.out.size; omega)
            have HvaD := Lib.hid hvaD
            have HgD := Lib.hid gD
            have Hs4 := Lib.hid hs4'
            clear hvaD gD hs4' f4 hs4 HvaC HfB hltA hcC HgC
            by_cases hfit : MD.used D.files + L[j].length ≤ k
            · obtain ⟨D2, hwr, h2room, h2fuse, h2len, h2data⟩ := room_fits (p := L[j]) Hfuse.out hnk (by omega) (by rw [hroom]; exact hfit)
              rw [hwr] at hd4 ⊢
              simp only at hd4
              have hused2 := hd4.ok.used
              have Hd4 := Lib.hid hd4
              clear hd4
              go_wp2_with fail
              refine (dRead_spec _ bd D2 S4 Hd4.out nm (by omega)).mono ?_
              rintro e we ⟨vb, rfl, hvb, gE, _⟩
              have hbl := readData_le Hd4.out.ok nm
              rw [h2data] at hvb hbl
              rw [List.length_append] at hbl
              have hcE := gE.cellG (HgD.out.cellG Hc0.out)
              have Hvb := Lib.hid hvb
              have HvaE := Lib.hid (HvaD.out.keepG gE)
              have HdE := Lib.hid (Hd4.out.keepG gE)
              have HgE := Lib.hid (Grew.trans HgD.out gE)
              have HbE := Lib.hid (Hb0.out.keepG HgE.out)
              have Hall2 := Lib.hid (And.intro h2room (And.intro h2fuse h2len))
              clear hvb gE Hd4 HvaD HgD hwr h2fuse h2len h2data
              have hfd : decide (((MD.used D.files : Nat) : Int) + ((L[j].length : Nat) : Int) ≤ (k : Int)) = true := decide_eq_true (by omega)
              have hus : decide (k < MD.used D2.files) = false := decide_eq_false (by omega)
              go_wp2_with fail
              have gE0 : Grew we we.drew := (Frm.refl _ we).drew
              have i1 : (0 : Int) ≤ (j : Int) := Int.natCast_nonneg _
              have i2 : (j : Int) < (L.length : Int) := by omega
              clear HR Hrows HdA Hfuse Hbl Hc0 Hs
              refine wp_region_noPanic ?_
              refine wp_region_held_drew (S := fun w' : World => w'.cell? ⟨g, off + j, none⟩ = some (.slice a L[j].length c)) (by kernel_rfl) (gE0.cellG hcE) (fun hHeld => ?_)
              refine wpAnyH_take (i := 0) (v := ?_) rfl (by kernel_rfl) (by kernel_rfl) (by kernel_rfl) (fun _ _ _ h => h) (Or.inl ⟨by rfl, ?_⟩) (by assumption) ?_
              rotate_left
              · (intro w' hSw; (try dsimp only at hSw); go_simp; (try with_reducible rfl))
              (try simp only [Act.put, List.getElem_toArray, List.getElem_cons_succ, List.getElem_cons_zero, List.setIfInBounds_toArray, List.set_cons_zero, List.set_cons_succ])
              refine wpAnyH_take (i := 1) (v := ?_) rfl (by kernel_rfl) (by kernel_rfl) (by kernel_rfl) (fun _ _ _ h => h) (Or.inl ⟨by rfl, ?_⟩) (by assumption) ?_
              rotate_left
              · (intro w' hSw; (try dsimp only at hSw); go_simp; (try with_reducible rfl))
              (try simp only [Act.put, List.getElem_toArray, List.getElem_cons_succ, List.getElem_cons_zero, List.setIfInBounds_toArray, List.set_cons_zero, List.set_cons_succ])
              refine wpAnyH_take (i := 2) (v := ?_) rfl (by kernel_rfl) (by kernel_rfl) (by kernel_rfl) (fun _ _ _ h => h) (Or.inl ⟨by rfl, ?_⟩) (by assumption) ?_
              rotate_left
              · (intro w' hSw; (try dsimp only at hSw); go_simp; (try with_reducible rfl))
              (try simp only [Act.put, List.getElem_toArray, List.getElem_cons_succ, List.getElem_cons_zero, List.setIfInBounds_toArray, List.set_cons_zero, List.set_cons_succ])
              refine wpAnyH_take (i := 3) (v := ?_) rfl (by kernel_rfl) (by kernel_rfl) (by kernel_rfl) (fun _ _ _ h => h) (Or.inl ⟨by rfl, ?_⟩) (by assumption) ?_
              rotate_left
              · (intro w' hSw; (try dsimp only at hSw); go_simp; (try with_reducible rfl))
              (try simp only [Act.put, List.getElem_toArray, List.getElem_cons_succ, List.getElem_cons_zero, List.setIfInBounds_toArray, List.set_cons_zero, List.set_cons_succ])
              refine wpAnyH_take (i := 4) (v := ?_) rfl (by kernel_rfl) (by kernel_rfl) (by kernel_rfl) (fun _ _ _ h => h) (Or.inl ⟨by rfl, ?_⟩) (by assumption) ?_
              rotate_left
              · (intro w' hSw; (try dsimp only at hSw); go_simp; (try with_reducible rfl))
              (try simp only [Act.put, List.getElem_toArray, List.getElem_cons_succ, List.getElem_cons_zero, List.setIfInBounds_toArray, List.set_cons_zero, List.set_cons_succ])
              refine wpAnyH_take (i := 5) (v := ?_) rfl (by kernel_rfl) (by kernel_rfl) (by kernel_rfl) (fun _ _ _ h => h) (Or.inl ⟨by rfl, ?_⟩) (by assumption) ?_
              rotate_left
              · (intro w' hSw; (try dsimp only at hSw); go_simp; (try with_reducible rfl))
              (try simp only [Act.put, List.getElem_toArray, List.getElem_cons_succ, List.getElem_cons_zero, List.setIfInBounds_toArray, List.set_cons_zero, List.set_cons_succ])
              refine wpAnyH_take (i := 7) (v := ?_) rfl (by kernel_rfl) (by kernel_rfl) (by kernel_rfl) (fun _ _ _ h => h) (Or.inl ⟨by rfl, ?_⟩) (by assumption) ?_
              rotate_left
              · (intro w' hSw; (try dsimp only at hSw); go_simp; (try with_reducible rfl))
              (try simp only [Act.put, List.getElem_toArray, List.getElem_cons_succ, List.getElem_cons_zero, List.setIfInBounds_toArray, List.set_cons_zero, List.set_cons_succ])
              refine wpAnyH_ready (rs := [6]) (by kernel_rfl) (by simp) ?_
              refine AllReadyH.cons rfl (fun K hK => ?_) AllReadyH.nil
              go_simp
              go_at_call 15
              (with_reducible refine (dUsed_spec _ bd D2 S4 (HdE.out.keepG gE0)).mono ?_)
              rintro e w6 ⟨rfl, g6⟩
              (try go_wp2_with fail)
              have G6 : Grew we w6 := Grew.trans gE0 g6
              have c6 := G6.cellG hcE
              refine hK.out _ _ (c6) (fun hHeld => ?_)
              clear hK K
              (try simp only [Act.put, List.getElem_toArray, List.getElem_cons_succ, List.getElem_cons_zero, List.setIfInBounds_toArray, List.set_cons_zero, List.set_cons_succ])
              refine wpAnyH_take (i := 8) (v := ?_) rfl (by kernel_rfl) (by kernel_rfl) (by kernel_rfl) (fun _ _ _ h => h) (Or.inl ⟨by rfl, ?_⟩) (by assumption) ?_
              rotate_left
              · (intro w' hSw; (try dsimp only at hSw); go_simp; (try with_reducible rfl))
              (try simp only [Act.put, List.getElem_toArray, List.getElem_cons_succ, List.getElem_cons_zero, List.setIfInBounds_toArray, List.set_cons_zero, List.set_cons_succ])
              refine wpAnyH_take (i := 9) (v := ?_) rfl (by kernel_rfl) (by kernel_rfl) (by kernel_rfl) (fun _ _ _ h => h) (Or.inl ⟨by rfl, ?_⟩) (by assumption) ?_
              rotate_left
              · (intro w' hSw; (try dsimp only at hSw); go_simp; (try with_reducible rfl))
              (try simp only [Act.put, List.getElem_toArray, List.getElem_cons_succ, List.getElem_cons_zero, List.setIfInBounds_toArray, List.set_cons_zero, List.set_cons_succ])
              refine wpAnyH_take (i := 10) (v := ?_) rfl (by kernel_rfl) (by kernel_rfl) (by kernel_rfl) (fun _ _ _ h => h) (Or.inl ⟨by rfl, ?_⟩) (by assumption) ?_
              rotate_left
              · (intro w' hSw; (try dsimp only at hSw); go_simp; (try with_reducible rfl))
              (try simp only [Act.put, List.getElem_toArray, List.getElem_cons_succ, List.getElem_cons_zero, List.setIfInBounds_toArray, List.set_cons_zero, List.set_cons_succ])
              refine wpAnyH_take (i := 11) (v := ?_) rfl (by kernel_rfl) (by kernel_rfl) (by kernel_rfl) (fun _ _ _ h => h) (Or.inl ⟨by rfl, ?_⟩) (by assumption) ?_
              rotate_left
              · (intro w' hSw; (try dsimp only at hSw); go_simp; (try with_reducible rfl))
              (try simp only [Act.put, List.getElem_toArray, List.getElem_cons_succ, List.getElem_cons_zero, List.setIfInBounds_toArray, List.set_cons_zero, List.set_cons_succ])
              refine wpAnyH_take (i := 12) (v := ?_) rfl (by kernel_rfl) (by kernel_rfl) (by kernel_rfl) (fun _ _ _ h => h) (Or.inl ⟨by rfl, ?_⟩) (by assumption) ?_
              rotate_left
              · (intro w' hSw; (try dsimp only at hSw); go_simp; (try with_reducible rfl))
              (try simp only [Act.put, List.getElem_toArray, List.getElem_cons_succ, List.getElem_cons_zero, List.setIfInBounds_toArray, List.set_cons_zero, List.set_cons_succ])
              refine wpAnyH_take (i := 13) (v := ?_) rfl (by kernel_rfl) (by kernel_rfl) (by kernel_rfl) (fun _ _ _ h => h) (Or.inl ⟨by rfl, ?_⟩) (by assumption) ?_
              rotate_left
              · (intro w' hSw; (try dsimp only at hSw); go_simp; (try with_reducible rfl))
              (try simp only [Act.put, List.getElem_toArray, List.getElem_cons_succ, List.getElem_cons_zero, List.setIfInBounds_toArray, List.set_cons_zero, List.set_cons_succ])
              refine wpAnyH_take (i := 14) (v := undef) rfl (by kernel_rfl) (by kernel_rfl) (by kernel_rfl) (fun _ _ _ h => h) (Or.inr ⟨by rfl, rfl⟩) (by assumption) ?_
              (try simp only [Act.put, List.getElem_toArray, List.getElem_cons_succ, List.getElem_cons_zero, List.setIfInBounds_toArray, List.set_cons_zero, List.set_cons_succ])
              refine wpAnyH_take (i := 15) (v := undef) rfl (by kernel_rfl) (by kernel_rfl) (by kernel_rfl) (fun _ _ _ h => h) (Or.inr ⟨by rfl, rfl⟩) (by assumption) ?_
              (try simp only [Act.put, List.getElem_toArray, List.getElem_cons_succ, List.getElem_cons_zero, List.setIfInBounds_toArray, List.set_cons_zero, List.set_cons_succ])
              refine wpAnyH_ready (rs := [16]) (by kernel_rfl) (by simp) ?_
              refine AllReadyH.cons rfl (fun K hK => ?_) AllReadyH.nil
              go_simp
              refine hK.out _ _ (c6) (fun hHeld => ?_)
              clear hK K
              (try simp only [Act.put, List.getElem_toArray, List.getElem_cons_succ, List.getElem_cons_zero, List.setIfInBounds_toArray, List.set_cons_zero, List.set_cons_succ])
              refine wpAnyH_take (i := 17) (v := undef) rfl (by kernel_rfl) (by kernel_rfl) (by kernel_rfl) (fun _ _ _ h => h) (Or.inr ⟨by rfl, rfl⟩) (by assumption) ?_
              (try simp only [Act.put, List.getElem_toArray, List.getElem_cons_succ, List.getElem_cons_zero, List.setIfInBounds_toArray, List.set_cons_zero, List.set_cons_succ])
              refine wpAnyH_take (i := 18) (v := undef) rfl (by kernel_rfl) (by kernel_rfl) (by kernel_rfl) (fun _ _ _ h => h) (Or.inr ⟨by rfl, rfl⟩) (by assumption) ?_
              (try simp only [Act.put, List.getElem_toArray, List.getElem_cons_succ, List.getElem_cons_zero, List.setIfInBounds_toArray, List.set_cons_zero, List.set_cons_succ])
              refine wpAnyH_take (i := 19) (v := undef) rfl (by kernel_rfl) (by kernel_rfl) (by kernel_rfl) (fun _ _ _ h => h) (Or.inr ⟨by rfl, rfl⟩) (by assumption) ?_
              (try simp only [Act.put, List.getElem_toArray, List.getElem_cons_succ, List.getElem_cons_zero, List.setIfInBounds_toArray, List.set_cons_zero, List.set_cons_succ])
              refine wpAnyH_take (i := 21) (v := undef) rfl (by kernel_rfl) (by kernel_rfl) (by kernel_rfl) (fun _ _ _ h => h) (Or.inr ⟨by rfl, rfl⟩) (by assumption) ?_
              (try simp only [Act.put, List.getElem_toArray, List.getElem_cons_succ, List.getElem_cons_zero, List.setIfInBounds_toArray, List.set_cons_zero, List.set_cons_succ])
              refine wpAnyH_ready (rs := [20]) (by kernel_rfl) (by simp) ?_
              refine AllReadyH.cons rfl (fun K hK => ?_) AllReadyH.nil
              go_simp
              refine hK.out _ _ (c6) (fun hHeld => ?_)
              clear hK K
              (try simp only [Act.put, List.getElem_toArray, List.getElem_cons_succ, List.getElem_cons_zero, List.setIfInBounds_toArray, List.set_cons_zero, List.set_cons_succ])
              refine wpAnyH_take (i := 22) (v := undef) rfl (by kernel_rfl) (by kernel_rfl) (by kernel_rfl) (fun _ _ _ h => h) (Or.inr ⟨by rfl, rfl⟩) (by assumption) ?_
              (try simp only [Act.put, List.getElem_toArray, List.getElem_cons_succ, List.getElem_cons_zero, List.setIfInBounds_toArray, List.set_cons_zero, List.set_cons_succ])
              refine wpAnyH_take (i := 23) (v := undef) rfl (by kernel_rfl) (by kernel_rfl) (by kernel_rfl) (fun _ _ _ h => h) (Or.inr ⟨by rfl, rfl⟩) (by assumption) ?_
              (try simp only [Act.put, List.getElem_toArray, List.getElem_cons_succ, List.getElem_cons_zero, List.setIfInBounds_toArray, List.set_cons_zero, List.set_cons_succ])
              refine wpAnyH_take (i := 24) (v := ?_) rfl (by kernel_rfl) (by kernel_rfl) (by kernel_rfl) (fun _ _ _ h => h) (Or.inl ⟨by rfl, ?_⟩) (by assumption) ?_
              rotate_left
              · (intro w' hSw; (try dsimp only at hSw); go_simp; (try with_reducible rfl))
              (try simp only [Act.put, List.getElem_toArray, List.getElem_cons_succ, List.getElem_cons_zero, List.setIfInBounds_toArray, List.set_cons_zero, List.set_cons_succ])
              refine wpAnyH_take (i := 25) (v := ?_) rfl (by kernel_rfl) (by kernel_rfl) (by kernel_rfl) (fun _ _ _ h => h) (Or.inl ⟨by rfl, ?_⟩) (by assumption) ?_
              rotate_left
              · (intro w' hSw; (try dsimp only at hSw); go_simp; (try with_reducible rfl))
              (try simp only [Act.put, List.getElem_toArray, List.getElem_cons_succ, List.getElem_cons_zero, List.setIfInBounds_toArray, List.set_cons_zero, List.set_cons_succ])
              refine wpAnyH_take (i := 26) (v := ?_) rfl (by kernel_rfl) (by kernel_rfl) (by kernel_rfl) (fun _ _ _ h => h) (Or.inl ⟨by rfl, ?_⟩) (by assumption) ?_
              rotate_left
              · (intro w' hSw; (try dsimp only at hSw); go_simp; (try with_reducible rfl))
              (try simp only [Act.put, List.getElem_toArray, List.getElem_cons_succ, List.getElem_cons_zero, List.setIfInBounds_toArray, List.set_cons_zero, List.set_cons_succ])
              refine wpAnyH_take (i := 27) (v := ?_) rfl (by kernel_rfl) (by kernel_rfl) (by kernel_rfl) (fun _ _ _ h => h) (Or.inl ⟨by rfl, ?_⟩) (by assumption) ?_
              rotate_left
              · (intro w' hSw; (try dsimp only at hSw); go_simp; (try with_reducible rfl))
              (try simp only [Act.put, List.getElem_toArray, List.getElem_cons_succ, List.getElem_cons_zero, List.setIfInBounds_toArray, List.set_cons_zero, List.set_cons_succ])
              refine wpAnyH_take (i := 28) (v := ?_) rfl (by kernel_rfl) (by kernel_rfl) (by kernel_rfl) (fun _ _ _ h => h) (Or.inl ⟨by rfl, ?_⟩) (by assumption) ?_
              rotate_left
              · (intro w' hSw; (try dsimp only at hSw); go_simp; (try with_reducible rfl))
              (try simp only [Act.put, List.getElem_toArray, List.getElem_cons_succ, List.getElem_cons_zero, List.setIfInBounds_toArray, List.set_cons_zero, List.set_cons_succ])
              refine wpAnyH_take (i := 29) (v := ?_) rfl (by kernel_rfl) (by kernel_rfl) (by kernel_rfl) (fun _ _ _ h => h) (Or.inl ⟨by rfl, ?_⟩) (by assumption) ?_
              rotate_left
              · (intro w' hSw; (try dsimp only at hSw); go_simp; (try with_reducible rfl))
              (try simp only [Act.put, List.getElem_toArray, List.getElem_cons_succ, List.getElem_cons_zero, List.setIfInBounds_toArray, List.set_cons_zero, List.set_cons_succ])
              refine wpAnyH_take (i := 31) (v := ?_) rfl (by kernel_rfl) (by kernel_rfl) (by kernel_rfl) (fun _ _ _ h => h) (Or.inl ⟨by rfl, ?_⟩) (by assumption) ?_
              rotate_left
              · (intro w' hSw; (try dsimp only at hSw); go_simp; (try with_reducible rfl))
              (try simp only [Act.put, List.getElem_toArray, List.getElem_cons_succ, List.getElem_cons_zero, List.setIfInBounds_toArray, List.set_cons_zero, List.set_cons_succ])
              refine wpAnyH_take (i := 33) (v := ?_) rfl (by kernel_rfl) (by kernel_rfl) (by kernel_rfl) (fun _ _ _ h => h) (Or.inl ⟨by rfl, ?_⟩) (by assumption) ?_
              rotate_left
              · (intro w' hSw; (try dsimp only at hSw); go_simp; (try with_reducible rfl))
              (try simp only [Act.put, List.getElem_toArray, List.getElem_cons_succ, List.getElem_cons_zero, List.setIfInBounds_toArray, List.set_cons_zero, List.set_cons_succ])
              refine wpAnyH_take (i := 34) (v := ?_) rfl (by kernel_rfl) (by kernel_rfl) (by kernel_rfl) (fun _ _ _ h => h) (Or.inl ⟨by rfl, ?_⟩) (by assumption) ?_
              rotate_left
              · (intro w' hSw; (try dsimp only at hSw); go_simp; (try with_reducible rfl))
              (try simp only [Act.put, List.getElem_toArray, List.getElem_cons_succ, List.getElem_cons_zero, List.setIfInBounds_toArray, List.set_cons_zero, List.set_cons_succ])
              refine wpAnyH_take (i := 35) (v := ?_) rfl (by kernel_rfl) (by kernel_rfl) (by kernel_rfl) (fun _ _ _ h => h) (Or.inl ⟨by rfl, ?_⟩) (by assumption) ?_
              rotate_left
              · (intro w' hSw; (try dsimp only at hSw); go_simp; (try with_reducible rfl))
              (try simp only [Act.put, List.getElem_toArray, List.getElem_cons_succ, List.getElem_cons_zero, List.setIfInBounds_toArray, List.set_cons_zero, List.set_cons_succ])
              refine wpAnyH_take (i := 36) (v := ?_) rfl (by kernel_rfl) (by kernel_rfl) (by kernel_rfl) (fun _ _ _ h => h) (Or.inl ⟨by rfl, ?_⟩) (by assumption) ?_
              rotate_left
              · (intro w' hSw; (try dsimp only at hSw); go_simp; (try with_reducible rfl))
              (try simp only [Act.put, List.getElem_toArray, List.getElem_cons_succ, List.getElem_cons_zero, List.setIfInBounds_toArray, List.set_cons_zero, List.set_cons_succ])
              refine wpAnyH_ready (rs := [30]) (by kernel_rfl) (by simp) ?_
              refine AllReadyH.cons rfl (fun K hK => ?_) AllReadyH.nil
              go_simp
              refine hK.out _ _ ((grew_alloc _ _).cellG c6) (fun hHeld => ?_)
              clear hK K
              (try simp only [Act.put, List.getElem_toArray, List.getElem_cons_succ, List.getElem_cons_zero, List.setIfInBounds_toArray, List.set_cons_zero, List.set_cons_succ])
              refine wpAnyH_ready (rs := [32]) (by kernel_rfl) (by simp) ?_
              refine AllReadyH.cons rfl (fun K hK => ?_) AllReadyH.nil
              refine step_appendG (.slice (some ⟨w6.heap.size, 0, none⟩) 0 0) va [] (readData D nm) (by rfl) _ _ rfl rfl rfl (Own.made w6 5 1) ((HvaE.out.rd.keepG G6).keepG (grew_alloc w6 _)) (by show 0 + _ ≤ _; omega) ?_
              intro v7 w7 a1 a2 a3 a4
              have G7 : Grew we w7 := Grew.trans G6 (Frm.trans (grew_alloc w6 _) a2 (fun k hk e => by have e' : w6.heap.size = k := Option.some.inj e; omega))
              have c7 := G7.cellG hcE
              have F7 : ∀ b, v7.ownBlock = some b → we.heap.size ≤ b := append_fresh G6 a3
              (try go_simp)
              refine hK.out _ _ (c7) (fun hHeld => ?_)
              clear hK K
              (try simp only [Act.put, List.getElem_toArray, List.getElem_cons_succ, List.getElem_cons_zero, List.setIfInBounds_toArray, List.set_cons_zero, List.set_cons_succ])
              refine wpAnyH_ready (rs := [37]) (by kernel_rfl) (by simp) ?_
              refine AllReadyH.cons rfl (fun K hK => ?_) AllReadyH.nil
              refine step_appendG v7 (.slice a L[j].length c) ([] ++ readData D nm) L[j] (by rfl) _ _ rfl rfl rfl a1 (HbE.out.keepG G7) (by simp; omega) ?_
              intro v8 w8 b1 b2 b3 b4
              have G8 : Grew we w8 := Frm.trans G7 b2 (fun k hk e => by have := F7 k e; omega)
              have c8 := G8.cellG hcE
              (try go_simp)
              refine hK.out _ _ (c8) (fun hHeld => ?_)
              clear hK K
              (try simp only [Act.put, List.getElem_toArray, List.getElem_cons_succ, List.getElem_cons_zero, List.setIfInBounds_toArray, List.set_cons_zero, List.set_cons_succ])
              refine wpAnyH_ready (rs := [38]) (by kernel_rfl) (by simp) ?_
              refine AllReadyH.cons rfl (fun K hK => ?_) AllReadyH.nil
              go_simp
              go_at_call 16
              (with_reducible refine (same_spec _ vb v8 _ _ (Hvb.out.rd.keepG G8) b1.rd).mono ?_)
              rintro e w9 ⟨rfl, g9⟩
              rw [show decide (readData D nm ++ L[j] = ([] ++ readData D nm) ++ L[j]) = true from decide_eq_true rfl]
              (try go_wp2_with fail)
              have G9 : Grew we w9 := Grew.trans G8 g9
              have c9 := G9.cellG hcE
              refine hK.out _ _ (c9) (fun hHeld => ?_)
              clear hK K
              (try simp only [Act.put, List.getElem_toArray, List.getElem_cons_succ, List.getElem_cons_zero, List.setIfInBounds_toArray, List.set_cons_zero, List.set_cons_succ])
              refine wpAnyH_take (i := 39) (v := ?_) rfl (by kernel_rfl) (by kernel_rfl) (by kernel_rfl) (fun _ _ _ h => h) (Or.inl ⟨by rfl, ?_⟩) (by assumption) ?_
              rotate_left
              · (intro w' hSw; (try dsimp only at hSw); go_simp; (try with_reducible rfl))
              (try simp only [Act.put, List.getElem_toArray, List.getElem_cons_succ, List.getElem_cons_zero, List.setIfInBounds_toArray, List.set_cons_zero, List.set_cons_succ])
              refine wpAnyH_take (i := 40) (v := ?_) rfl (by kernel_rfl) (by kernel_rfl) (by kernel_rfl) (fun _ _ _ h => h) (Or.inl ⟨by rfl, ?_⟩) (by assumption) ?_
              rotate_left
              · (intro w' hSw; (try dsimp only at hSw); go_simp; (try with_reducible rfl))
              (try simp only [Act.put, List.getElem_toArray, List.getElem_cons_succ, List.getElem_cons_zero, List.setIfInBounds_toArray, List.set_cons_zero, List.set_cons_succ])
              refine wpAnyH_take (i := 41) (v := ?_) rfl (by kernel_rfl) (by kernel_rfl) (by kernel_rfl) (fun _ _ _ h => h) (Or.inl ⟨by rfl, ?_⟩) (by assumption) ?_
              rotate_left
              · (intro w' hSw; (try dsimp only at hSw); go_simp; (try with_reducible rfl))
              (try simp only [Act.put, List.getElem_toArray, List.getElem_cons_succ, List.getElem_cons_zero, List.setIfInBounds_toArray, List.set_cons_zero, List.set_cons_succ])
              refine wpAnyH_done (by kernel_rfl) ?_ _
              refine NoPanic.normal ?_
              all_goals
                have HdF := Lib.hid (HdE.out.keepG G9)
                have HgF := Lib.hid (Grew.trans HgE.out G9)
                clear HdE HgE HvaE HbE Hvb
                go_wp2_with fail
                go_roundg (gk - 1)
                case measure => have := Hgk.out; omega
                case rel => exact ⟨j + 1, D2, S4, by omega, by have := Hgk.out; omega, by go_num, HdF.out, Hall2.out.1.trans hroom, Hall2.out.2.1, by have := Hall2.out.2.2; omega, Hs4.out, HgF.out⟩
            · rw [room_not Hfuse.out hnk (by rw [hroom]; omega)] at hd4 ⊢
              simp only at hd4
              have Hd4 := Lib.hid hd4
              clear hd4
              go_wp2_with fail
              refine (dRead_spec _ bd D S4 Hd4.out nm (by omega)).mono ?_
              rintro e we ⟨vb, rfl, hvb, gE, _⟩
              have hcE := gE.cellG (HgD.out.cellG Hc0.out)
              have Hvb := Lib.hid hvb
              have HvaE := Lib.hid (HvaD.out.keepG gE)
              have HdE := Lib.hid (Hd4.out.keepG gE)
              have HgE := Lib.hid (Grew.trans HgD.out gE)
              clear hvb gE Hd4 HvaD HgD
              have hfd : decide (((MD.used D.files : Nat) : Int) + ((L[j].length : Nat) : Int) ≤ (k : Int)) = false := decide_eq_false (by omega)
              have hus : decide (k < MD.used D.files) = false := decide_eq_false (by omega)
              go_wp2_with fail
              refine wp_ext fun s => ?_
              refine wp_region_ext _ (by kernel_rfl) (by kernel_rfl) ?_
              repeat (go_big_quiet_step (first | exact Calls.ext (dUsed_spec _ bd D S4 (HdE.out.keepG (Ext.h _))) | exact Calls.ext ((same_spec _ vb va _ _ (Hvb.out.rd.keepG (Ext.h _)) (HvaE.out.rd.keepG (Ext.h _))).mono (fun e w' h => h))))
              refine wpQuiet_nil ?_
              intro s'
              have HdF := Lib.hid (HdE.out.keepG s'.h)
              have HgF := Lib.hid (Grew.trans HgE.out s'.h)
              go_wp2_with fail
              go_roundg (gk - 1)
              case measure => have := Hgk.out; omega
              case rel => exact ⟨j + 1, D, S4, by omega, by have := Hgk.out; omega, by go_num, HdF.out, hroom, Hfuse.out, by omega, Hs4.out, HgF.out⟩
          · go_wp2_with
              (go_at_call 9;
               (with_reducible refine (known_spec _).mono ?_)
               rintro e w' ⟨rfl, hg⟩)
            go_ret
            exact ⟨rfl, Grew.trans Hg.out hg⟩
      · by_cases c1 : 8000 < tot L
        · go_wp2_with
            (go_at_call 9;
             (with_reducible refine (known_spec _).mono ?_)
             rintro e w' ⟨rfl, hg⟩)
          go_ret
          exact ⟨rfl, hg⟩
        · by_cases c2 : room < 0
          · go_wp2_with
              (go_at_call 9;
               (with_reducible refine (known_spec _).mono ?_)
               rintro e w' ⟨rfl, hg⟩)
            go_ret
            exact ⟨rfl, hg⟩
          · by_cases c3 : 5000 < room
            · go_wp2_with
                (go_at_call 9;
                 (with_reducible refine (known_spec _).mono ?_)
                 rintro e w' ⟨rfl, hg⟩)
              go_ret
              exact ⟨rfl, hg⟩
            · have c4 : 60 < L.length := by omega
              go_wp2_with
                (go_at_call 9;
                 (with_reducible refine (known_spec _).mono ?_)
                 rintro e w' ⟨rfl, hg⟩)
              go_ret
              exact ⟨rfl, hg⟩
end Go.Proofs.Ytjcjajpndchfdaa
