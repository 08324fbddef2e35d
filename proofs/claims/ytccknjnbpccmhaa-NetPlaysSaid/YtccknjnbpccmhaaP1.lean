/- The walk of NetPlays. -/
import Derived.Test.YtccknjnbpccmhaaO1
namespace Go.Proofs.Ytccknjnbpccmhaa
open Go.RowKit

set_option maxRecDepth 100000 in
set_option maxHeartbeats 8000000 in
theorem net_walk_a (w : World) (v : Value) (rows : List Sr) (hR : StepsAt w v rows) (hrows : ∀ r ∈ rows, r.s.data.length ≤ 140737488351232) (hL : rows.length ≤ 200) :
    Calls Try.prog 3 #[v] w (BoolPost w true) := by
  obtain ⟨ra, rc, rfl, r1, r2, r3⟩ := hR.rd.shape
  unfold maxLen at r2 r3
  have HR := Lib.hid hR
  have Hrows := Lib.hid hrows
  clear hR hrows
  go_enter Try.func3, Try.ntmps3
  go_wp2_with fail
  go_loopg [3, 4] (rows.length + 1) (fun gk n i wr => ∃ j : Nat, j ≤ rows.length ∧ gk + j = rows.length + 1 ∧ i = .int .i64 j ∧ n = .int .i64 (sumB rows j) ∧ w = wr ∧ sumB rows j ≤ 5000)
  case atStart => exact ⟨0, Nat.zero_le _, rfl, rfl, rfl, rfl, Nat.zero_le _⟩
  case round =>
    obtain ⟨j, hj, hgk, rfl, rfl, rfl, htb⟩ := hrel
    have Hgk := Lib.hid hgk
    clear hgk
    by_cases hlt : j < rows.length
    · have hlt1 : j < rows.length := by omega
      have hlt2 : (j : Int) < 200 := by omega
      obtain ⟨g, off, rfl⟩ := HR.out.rd.addr (by omega) rfl
      obtain ⟨c0, c1, c2, c3, c4⟩ := HR.out.cells hlt1
      obtain ⟨da, dc, hdv, _, _, _⟩ := (HR.out.row _ (List.getElem_mem hlt1)).shape
      rw [hdv] at c4
      have hlj := Hrows.out rows[j] (List.getElem_mem hlt1)
      have hts := sumB_succ rows j hlt1
      have Hts := Lib.hid hts
      have i1 : (0 : Int) ≤ (j : Int) := Int.natCast_nonneg _
      have i2 : (j : Int) < (rows.length : Int) := by omega
      by_cases h5 : 5000 < sumB rows (j + 1)
      · have hd : decide ((5000 : Int) < (sumB rows j : Int) + (rows[j].s.data.length : Int)) = true := decide_eq_true (by omega)
        clear hts h5 hdv
        go_wp2_with fail
        go_ret
        exact ⟨rfl, Frm.refl _ w⟩
      · have hd : decide ((5000 : Int) < (sumB rows j : Int) + (rows[j].s.data.length : Int)) = false := decide_eq_false (by omega)
        have H5 := Lib.hid h5
        clear hts h5 hdv
        go_wp2_with fail
        go_roundg (gk - 1)
        case measure => have := Hgk.out; omega
        case rel => exact ⟨j + 1, by omega, by have := Hgk.out; omega, by go_num, by rw [Hts.out]; go_num, rfl, by have := H5.out; omega⟩
    · obtain rfl : j = rows.length := by omega
      skip
      have Htb := Lib.hid htb
      clear Hgk htb hlt hj
      go_wp2_with fail
      refine (nNew_spec _).mono ?_
      rintro e w1 ⟨bn, rfl, n1, g1, hbn⟩
      go_wp2_with fail
      generalize hw2 : World.alloc w1 _ = w2
      have g2 : Grew w1 w2 := hw2 ▸ grew_alloc w1 _
      have hbr : w2.heap[w1.heap.size]? = some (.cells #[.slice none 0 0] 33 (0, 0)) := hw2 ▸ heap_alloc_new' w1 _
      have hbn2 := n1.lt bn (by simp)
      have hz1 := g1.size
      have P0 : Hid (Both w w2 bn w1.heap.size []) := ⟨[bn], [w1.heap.size], n1.keepG g2, ⟨.slice none 0 0, [], hbr, Row.nil _, by simp, rfl, rfl, by simp, by simp, by simp⟩, fun k hk => by obtain rfl := List.mem_singleton.1 hk; exact hbn,
        fun k hk => by obtain rfl := List.mem_singleton.1 hk; exact hz1, fun k hk hk' => by rw [List.mem_singleton] at hk hk'; omega, Grew.trans g1 g2⟩
      generalize w1.heap.size = br at hbr hbn2 P0 ⊢
      clear hw2 n1 g1 hbn g2 hbr hbn2 hz1
      go_wp2_with fail
      go_loopg [7, 8, 9, 10, 11, 12, 13, 14] (rows.length + 1) (fun gk i _ _ _ _ _ _ _ wr => ∃ (j : Nat) (l : List Mg), j ≤ rows.length ∧ gk + j = rows.length + 1 ∧ i = .int .i64 j ∧ Both w wr bn br l)
      case atStart => exact ⟨0, [], Nat.zero_le _, rfl, rfl, P0.out⟩
      case round =>
        obtain ⟨j, l, hj, hgk, rfl, hP⟩ := hrel
        have Hgk := Lib.hid hgk
        obtain ⟨S0, T0, hpr⟩ := hP
        have hgw := hpr.g
        have HP := Lib.hid hpr
        clear hgk hpr P0
        by_cases hlt : j < rows.length
        · have hlt1 : j < rows.length := by omega
          have hlt2 : (j : Int) < 200 := by omega
          obtain ⟨g, off, rfl⟩ := HR.out.rd.addr (by omega) rfl
          have hRw := HR.out.keepG hgw
          obtain ⟨c0, c1, c2, c3, c4⟩ := hRw.cells hlt1
          have hB0 := hRw.row _ (List.getElem_mem hlt1)
          have hdl := Nat.le_trans (sumB_le rows hlt hlt1) Htb.out
          have i1 : (0 : Int) ≤ (j : Int) := Int.natCast_nonneg _
          have i2 : (j : Int) < (rows.length : Int) := by omega
          have HlR := Lib.hid hRw
          have hBw := HR.out.row _ (List.getElem_mem hlt1)
          generalize hxx : rows[j] = x at c0 c1 c2 c3 c4 hB0 hdl hBw
          clear hxx hRw
          obtain ⟨dv, ⟨kd, nn, fr, to', data⟩⟩ := x
          simp only at c0 c1 c2 c3 c4 hB0 hdl hBw
          obtain ⟨da, dc, rfl, k4, k5, k6⟩ := hB0.shape
          unfold maxLen at k5 k6
          have hbx := heap_alloc_new' wr (.cells #[.int .i64 kd, .int .i64 nn, .int .i64 fr, .int .i64 to', .slice da data.length dc] 27)
          have gx := grew_alloc wr (.cells #[.int .i64 kd, .int .i64 nn, .int .i64 fr, .int .i64 to', .slice da data.length dc] 27)
          have HB0 := Lib.hid hB0
          have HBw : Hid (Bytes w (.slice da data.length dc) data) := hBw
          clear hB0 hBw
          by_cases h1 : kd = 1
          · subst h1
            go_wp2_with
              (go_at_call 5
               (with_reducible refine (roomy_spec _ _ data (HB0.out.keepG gx) (by omega)).mono ?_)
               rintro e w3 ⟨bg, bc', rfl, hw3, g3, hbg⟩)
            have G3 : Grew wr w3 := Grew.trans gx g3
            have hb3 := g3.keepG hbx
            have hbxS : ∀ k ∈ S0, k < wr.heap.size := fun k hk => HP.out.a.lt k hk
            have hbxT : ∀ k ∈ T0, k < wr.heap.size := fun k hk => HP.out.b.lt k hk
            have hgz : wr.heap.size < bg := by have := hbg; simp only [World.size_alloc] at this; omega
            have hgw0 : w.heap.size ≤ bg := by have := hgw.size; omega
            generalize wr.heap.size = bx at hb3 hbxS hbxT hgz ⊢
            have hxS : bx ∉ S0 := fun h => Nat.lt_irrefl _ (hbxS _ h)
            have hxT : bx ∉ T0 := fun h => Nat.lt_irrefl _ (hbxT _ h)
            have hgS : bg ∉ S0 := fun h => by have := hbxS _ h; omega
            have hgT : bg ∉ T0 := fun h => by have := hbxT _ h; omega
            have P3 : Hid (Pr w w3.drew bn br l S0 l T0) := (HP.out.grew G3).drew
            have O3 : Hid (OwnB w3.drew (.slice (some ⟨bg, 0, none⟩) (data.length + 1) bc') (data ++ [171])) := hw3.of_eq (fun _ _ => rfl)
            have e0 : w3.drew.cell? ⟨bx, 0, none⟩ = some (.int .i64 1) := cell_is hb3 0 _ rfl
            have e1 : w3.drew.cell? ⟨bx, 1, none⟩ = some (.int .i64 nn) := cell_is hb3 1 _ rfl
            have e2 : w3.drew.cell? ⟨bx, 2, none⟩ = some (.int .i64 fr) := cell_is hb3 2 _ rfl
            have e3 : w3.drew.cell? ⟨bx, 3, none⟩ = some (.int .i64 to') := cell_is hb3 3 _ rfl
            have e4 : w3.drew.cell? ⟨bx, 4, none⟩ = some (.slice da data.length dc) := cell_is hb3 4 _ rfl
            have hbc : data.length ≤ bc' := by
              obtain ⟨_, _, he, h', _⟩ := hw3.rd.shape
              have h2 := (Value.slice.inj he).2.2
              rw [← h2] at h'
              simp at h'; omega
            have hcut : ∀ W : World, OwnB W (.slice (some ⟨bg, 0, none⟩) (data.length + 1) bc') (data ++ [171]) → Bytes W (.slice (some ⟨bg, 0, none⟩) data.length bc') data := fun W h => by
              have h2 := OwnB.cutC (n := data.length + 1) (by unfold OwnB at h; rw [List.length_append] at h; exact h) (k := data.length) (by simp)
              rw [List.take_left' rfl] at h2
              exact h2.rd
            have Hcut := Lib.hid hcut
            have HP3 := Lib.hid (And.intro hxS (And.intro hxT (And.intro hgS hgT)))
            have hgl : bg < w3.heap.size := hw3.lt bg rfl
            clear hw3 c0 c1 c2 c3 c4 hcut hxS hxT hgS hgT hbxS hbxT hbx gx g3 G3 HlR
            go_region_held3 (fun w' : World => w'.cell? ⟨bx, 2, none⟩ = some (.int .i64 fr) ∧ w'.cell? ⟨bx, 3, none⟩ = some (.int .i64 to') ∧ w'.cell? ⟨bx, 4, none⟩ = some (.slice da data.length dc))
              (go_keep)
              (first
                | (go_at_call 7
                   (with_reducible refine (rnSend_spec _ br l T0 PA.out.b fr to' _ data (HBw.out.keepG PA.out.g) (by omega)).mono ?_)
                   rintro e wC ⟨TC, rfl, nC, fC, sC⟩
                   have PC := Lib.hid (PA.out.ref nC fC sC)
                   have hgD := Lib.hid (And.intro qA (show bg ∉ TC from fun h => (sC bg h).elim HP3.out.2.2.2 (fun h => by omega)))
                   have OC := Lib.hid (OA.out.keep fC (fun k hk hkT => by cases hk; exact HP3.out.2.2.2 hkT))
                   have hbC := fC.keep hbA (fun h => HP3.out.2.1 h)
                   have x2 : wC.cell? ⟨bx, 2, none⟩ = some (.int .i64 fr) := cell_is hbC 2 _ rfl
                   have x3 : wC.cell? ⟨bx, 3, none⟩ = some (.int .i64 to') := cell_is hbC 3 _ rfl
                   have x4 : wC.cell? ⟨bx, 4, none⟩ = some (.slice da data.length dc) := cell_is hbC 4 _ rfl
                   clear nC fC sC)
                | (go_at_call 6
                   (with_reducible refine (nSend_spec _ bn l S0 PB.out.a fr to' _ data (Hcut.out _ OB.out) (by omega)).mono ?_)
                   rintro e wC ⟨SC, rfl, nC, fC, sC⟩
                   have PC := Lib.hid (PB.out.impl nC fC sC)
                   have hgD := Lib.hid (And.intro (show bg ∉ SC from fun h => (sC bg h).elim HP3.out.2.2.1 (fun h => by omega)) qB)
                   have OC := Lib.hid (OB.out.keep fC (fun k hk hkS => by cases hk; exact HP3.out.2.2.1 hkS))
                   have hbC := fC.keep hbB (fun h => HP3.out.1 h)
                   have x2 : wC.cell? ⟨bx, 2, none⟩ = some (.int .i64 fr) := cell_is hbC 2 _ rfl
                   have x3 : wC.cell? ⟨bx, 3, none⟩ = some (.int .i64 to') := cell_is hbC 3 _ rfl
                   have x4 : wC.cell? ⟨bx, 4, none⟩ = some (.slice da data.length dc) := cell_is hbC 4 _ rfl
                   clear nC fC sC)
                | (go_at_call 6
                   (with_reducible refine (nSend_spec _ bn l S0 P3.out.a fr to' _ data (Hcut.out _ O3.out) (by omega)).mono ?_)
                   rintro e wA ⟨SA, rfl, nA, fA, sA⟩
                   have PA := Lib.hid (P3.out.impl nA fA sA)
                   have zA : w3.heap.size ≤ wA.heap.size := fA.size
                   have qA : bg ∉ SA := fun h => (sA bg h).elim HP3.out.2.2.1 (fun h => by have h : w3.heap.size ≤ bg := h; omega)
                   have OA := Lib.hid (O3.out.keep fA (fun k hk hkS => by cases hk; exact HP3.out.2.2.1 hkS))
                   have hbA : wA.heap[bx]? = _ := fA.keep (w := w3.drew) hb3 (fun h => HP3.out.1 h)
                   have x2 : wA.cell? ⟨bx, 2, none⟩ = some (.int .i64 fr) := cell_is hbA 2 _ rfl
                   have x3 : wA.cell? ⟨bx, 3, none⟩ = some (.int .i64 to') := cell_is hbA 3 _ rfl
                   have x4 : wA.cell? ⟨bx, 4, none⟩ = some (.slice da data.length dc) := cell_is hbA 4 _ rfl
                   clear nA fA sA)
                | (go_at_call 7
                   (with_reducible refine (rnSend_spec _ br l T0 P3.out.b fr to' _ data (HBw.out.keepG P3.out.g) (by omega)).mono ?_)
                   rintro e wB ⟨TB, rfl, nB, fB, sB⟩
                   have PB := Lib.hid (P3.out.ref nB fB sB)
                   have zB : w3.heap.size ≤ wB.heap.size := fB.size
                   have qB : bg ∉ TB := fun h => (sB bg h).elim HP3.out.2.2.2 (fun h => by have h : w3.heap.size ≤ bg := h; omega)
                   have OB := Lib.hid (O3.out.keep fB (fun k hk hkT => by cases hk; exact HP3.out.2.2.2 hkT))
                   have hbB : wB.heap[bx]? = _ := fB.keep (w := w3.drew) hb3 (fun h => HP3.out.2.1 h)
                   have x2 : wB.cell? ⟨bx, 2, none⟩ = some (.int .i64 fr) := cell_is hbB 2 _ rfl
                   have x3 : wB.cell? ⟨bx, 3, none⟩ = some (.int .i64 to') := cell_is hbB 3 _ rfl
                   have x4 : wB.cell? ⟨bx, 4, none⟩ = some (.slice da data.length dc) := cell_is hbB 4 _ rfl
                   clear nB fB sB)
                | (go_at_call 8
                   (with_reducible refine (stands_spec _ bg bc' _ data OC.out (HBw.out.keepG PC.out.g)).mono ?_)
                   rintro e wD ⟨rfl, gD⟩
                   have PD := Lib.hid (PC.out.grew gD)
                   have OD := Lib.hid (OC.out.keepG gD)
                   have y2 := gD.cellG x2
                   have y3 := gD.cellG x3
                   have y4 := gD.cellG x4
                   clear gD))
            all_goals
              clear x2 x3 x4 e0 e1 e2 e3 e4 y2 y3 y4
              go_wp2_with
                (go_at_call 9
                 (with_reducible refine (spoil_spec _ _ _ OD.out (by simp; omega)).mono ?_)
                 rintro e wE ⟨rfl, fE⟩
                 have PE := Lib.hid (PD.out.frm fE (fun k hk hq => by cases hq; exact hgD.out.1 hk) (fun k hk hq => by cases hq; exact hgD.out.2 hk) (fun k hq => by cases hq; exact hgw0)))
              obtain ⟨va9, vc9, hbr9⟩ := PE.out.b.block
              have e9 : ∀ s : Ext wE, s.w.cell? ⟨br, 0, none⟩ = some (.slice va9 (netSend l ⟨fr, to', data⟩).length vc9) := ext_cell hbr9 0 _ rfl
              have hPE := Lib.hid (⟨_, _, PE.out⟩ : Both w wE bn br (netSend l ⟨fr, to', data⟩))
              clear hbr9
              go_wp2_with fail
              refine wp_ext fun s => ?_
              refine wp_region_ext _ (by kernel_rfl) (by kernel_rfl) ?_
              repeat (go_big_quiet_step (exact nLen_ext PE.out.a))
              refine wpQuiet_nil ?_
              intro s2
              go_wp2_with fail
              go_roundg (gk - 1)
              case measure => have := Hgk.out; omega
              case rel => exact ⟨j + 1, netSend l ⟨fr, to', data⟩, by omega, by have := Hgk.out; omega, by go_num, Both.grew hPE.out s2.h⟩
          · have hb1 : (kd == 1) = false := beq_eq_false_iff_ne.2 h1
            by_cases h2 : kd = 2
            · subst h2
              clear h1 hb1
              have P2 : Hid (Pr w (wr.alloc (.cells #[.int .i64 2, .int .i64 nn, .int .i64 fr, .int .i64 to', .slice da data.length dc] 27)) bn br l S0 l T0) := HP.out.grew gx
              have e1 : (wr.alloc (.cells #[.int .i64 2, .int .i64 nn, .int .i64 fr, .int .i64 to', .slice da data.length dc] 27)).cell? ⟨wr.heap.size, 1, none⟩ = some (.int .i64 nn) := cell_is hbx 1 _ rfl
              have hbxS : ∀ k ∈ S0, k < wr.heap.size := fun k hk => HP.out.a.lt k hk
              have hbxT : ∀ k ∈ T0, k < wr.heap.size := fun k hk => HP.out.b.lt k hk
              go_wp2_with (first
                | (go_at_call 10
                   (with_reducible refine (nGive_any _ bn l S0 P2.out.a nn).mono ?_)
                   rintro e wA ⟨SA, va, ca, rfl, nA, oA, fA, sA, dA, mA⟩
                   have PA := Lib.hid (P2.out.impl nA fA sA)
                   have hbA := fA.keep hbx (fun h => Nat.lt_irrefl _ (hbxS _ h))
                   have x2 : wA.cell? ⟨wr.heap.size, 1, none⟩ = some (.int .i64 nn) := cell_is hbA 1 _ rfl
                   have lA := lt_of_heap hbA
                   have gm := grew_alloc wA (.cells #[.int .i64 (giveM l nn).frm, .int .i64 (giveM l nn).to, .slice va (giveM l nn).data.length ca] 25)
                   have hbm := heap_alloc_new' wA (.cells #[.int .i64 (giveM l nn).frm, .int .i64 (giveM l nn).to, .slice va (giveM l nn).data.length ca] 25)
                   have hTA : ∀ k ∈ T0, k < wA.heap.size := fun k hk => PA.out.b.lt k hk)
                | (go_at_call 11
                   (with_reducible refine (rnGive_any _ br l T0 (PA.out.grew gm).b nn).mono ?_)
                   rintro e wB ⟨TB, vb, cb, rfl, nB, oB, fB, sB, dB, mB⟩
                   have PB := Lib.hid ((PA.out.grew gm).ref nB fB sB)
                   have hbm2 := fB.keep hbm (fun h => Nat.lt_irrefl _ (hTA _ h))
                   have y0 : wB.cell? ⟨wA.heap.size, 0, none⟩ = some (.int .i64 (giveM l nn).frm) := cell_is hbm2 0 _ rfl
                   have y1 : wB.cell? ⟨wA.heap.size, 1, none⟩ = some (.int .i64 (giveM l nn).to) := cell_is hbm2 1 _ rfl
                   have y2 : wB.cell? ⟨wA.heap.size, 2, none⟩ = some (.slice va (giveM l nn).data.length ca) := cell_is hbm2 2 _ rfl
                   have lB := lt_of_heap hbm2
                   have go := grew_alloc wB (.cells #[.int .i64 (giveM l nn).frm, .int .i64 (giveM l nn).to, .slice vb (giveM l nn).data.length cb] 25)
                   have oA2 := Lib.hid (((oA.keepG gm).keep fB (fun k hk hkT => P2.out.apart k (dA k hk).1 hkT)).keepG go)
                   have oB2 := Lib.hid (oB.keepG go))
                | (go_at_call 12
                   (with_reducible refine (messages_spec _ _ _ _ _ (giveM l nn).data oA2.out.rd oB2.out.rd).mono ?_)
                   rintro e wC ⟨rfl, gC⟩
                   have PC := Lib.hid ((PB.out.grew go).grew gC)
                   have hbm3 := gC.keepG (go.keepG hbm2)
                   have z2 : wC.cell? ⟨wA.heap.size, 2, none⟩ = some (.slice va (giveM l nn).data.length ca) := cell_is hbm3 2 _ rfl
                   have oA3 := Lib.hid (oA2.out.keepG gC))
                | (go_at_call 9
                   (with_reducible refine (spoil_spec _ _ _ oA3.out (by omega)).mono ?_)
                   rintro e wE ⟨rfl, fE⟩
                   have PE := Lib.hid (PC.out.frm fE (fun k hk hq => (dA k hq).2 hk) (fun k hk hq => (sB k hk).elim (fun h => P2.out.apart k (dA k hq).1 h) (fun h => by have h1 := (hbxS k (dA k hq).1); have h2 := gm.size; omega)) (fun k hq => P2.out.sa k (dA k hq).1))))
              obtain ⟨va9, vc9, hbr9⟩ := PE.out.b.block
              have e9 : ∀ s : Ext wE, s.w.cell? ⟨br, 0, none⟩ = some (.slice va9 (giveL l nn).length vc9) := ext_cell hbr9 0 _ rfl
              have hPE := Lib.hid (⟨_, _, PE.out⟩ : Both w wE bn br (giveL l nn))
              clear hbr9
              go_wp2_with fail
              refine wp_ext fun s => ?_
              refine wp_region_ext _ (by kernel_rfl) (by kernel_rfl) ?_
              repeat (go_big_quiet_step (exact nLen_ext PE.out.a))
              refine wpQuiet_nil ?_
              intro s2
              go_wp2_with fail
              go_roundg (gk - 1)
              case measure => have := Hgk.out; omega
              case rel => exact ⟨j + 1, giveL l nn, by omega, by have := Hgk.out; omega, by go_num, Both.grew hPE.out s2.h⟩
            · have hb2 : (kd == 2) = false := beq_eq_false_iff_ne.2 h2
              by_cases h3 : kd = 3
              · subst h3
                clear h1 hb1 h2 hb2
                go_wp2_with fail
                have hb3 := hbx
                have hbxS : ∀ k ∈ S0, k < wr.heap.size := fun k hk => HP.out.a.lt k hk
                have hbxT : ∀ k ∈ T0, k < wr.heap.size := fun k hk => HP.out.b.lt k hk
                have P3 : Hid (Pr w (wr.alloc (.cells #[.int .i64 3, .int .i64 nn, .int .i64 fr, .int .i64 to', .slice da data.length dc] 27)).drew bn br l S0 l T0) := (HP.out.grew gx).drew
                generalize wr.alloc (.cells #[.int .i64 3, .int .i64 nn, .int .i64 fr, .int .i64 to', .slice da data.length dc] 27) = w3 at hb3 P3 ⊢
                generalize wr.heap.size = bx at hb3 hbxS hbxT ⊢
                have hxS : bx ∉ S0 := fun h => Nat.lt_irrefl _ (hbxS _ h)
                have hxT : bx ∉ T0 := fun h => Nat.lt_irrefl _ (hbxT _ h)
                have HP3 := Lib.hid (And.intro hxS hxT)
                have e1 : w3.drew.cell? ⟨bx, 1, none⟩ = some (.int .i64 nn) := cell_is hb3 1 _ rfl
                clear c0 c1 c2 c3 c4 hxS hxT hbxS hbxT hbx gx HlR
                go_region_held3 (fun w' : World => w'.cell? ⟨bx, 1, none⟩ = some (.int .i64 nn))
                  (go_keep)
                  (first
                    | (go_at_call 14
                       (with_reducible refine (rnTwice_any _ br l T0 PA.out.b nn).mono ?_)
                       rintro e wC ⟨TC, rfl, nC, fC, sC⟩
                       have PC := Lib.hid (PA.out.ref nC fC sC)
                       have x2 : wC.cell? ⟨bx, 1, none⟩ = some (.int .i64 nn) := cell_is (fC.keep hbA (fun h => HP3.out.2 h)) 1 _ rfl
                       clear nC fC sC)
                    | (go_at_call 13
                       (with_reducible refine (nTwice_any _ bn l S0 PB.out.a nn).mono ?_)
                       rintro e wC ⟨SC, rfl, nC, fC, sC⟩
                       have PC := Lib.hid (PB.out.impl nC fC sC)
                       have x2 : wC.cell? ⟨bx, 1, none⟩ = some (.int .i64 nn) := cell_is (fC.keep hbB (fun h => HP3.out.1 h)) 1 _ rfl
                       clear nC fC sC)
                    | (go_at_call 13
                       (with_reducible refine (nTwice_any _ bn l S0 P3.out.a nn).mono ?_)
                       rintro e wA ⟨SA, rfl, nA, fA, sA⟩
                       have PA := Lib.hid (P3.out.impl nA fA sA)
                       have hbA : wA.heap[bx]? = _ := fA.keep (w := w3.drew) hb3 (fun h => HP3.out.1 h)
                       have x2 : wA.cell? ⟨bx, 1, none⟩ = some (.int .i64 nn) := cell_is hbA 1 _ rfl
                       clear nA fA sA)
                    | (go_at_call 14
                       (with_reducible refine (rnTwice_any _ br l T0 P3.out.b nn).mono ?_)
                       rintro e wB ⟨TB, rfl, nB, fB, sB⟩
                       have PB := Lib.hid (P3.out.ref nB fB sB)
                       have hbB : wB.heap[bx]? = _ := fB.keep (w := w3.drew) hb3 (fun h => HP3.out.2 h)
                       have x2 : wB.cell? ⟨bx, 1, none⟩ = some (.int .i64 nn) := cell_is hbB 1 _ rfl
                       clear nB fB sB))
                all_goals
                  clear x2 e1
                  obtain ⟨va9, vc9, hbr9⟩ := PC.out.b.block
                  have e9 : ∀ s : Ext wC, s.w.cell? ⟨br, 0, none⟩ = some (.slice va9 (twL l nn).length vc9) := ext_cell hbr9 0 _ rfl
                  have hPE := Lib.hid (⟨_, _, PC.out⟩ : Both w wC bn br (twL l nn))
                  clear hbr9
                  go_wp2_with fail
                  refine wp_ext fun s => ?_
                  refine wp_region_ext _ (by kernel_rfl) (by kernel_rfl) ?_
                  repeat (go_big_quiet_step (exact nLen_ext PC.out.a))
                  refine wpQuiet_nil ?_
                  intro s2
                  go_wp2_with fail
                  go_roundg (gk - 1)
                  case measure => have := Hgk.out; omega
                  case rel => exact ⟨j + 1, twL l nn, by omega, by have := Hgk.out; omega, by go_num, Both.grew hPE.out s2.h⟩
              · have hb3 : (kd == 3) = false := beq_eq_false_iff_ne.2 h3
                by_cases h4 : kd = 4
                · subst h4
                  clear h1 hb1 h2 hb2 h3 hb3
                  go_wp2_with fail
                  have hb3 := hbx
                  have hbxS : ∀ k ∈ S0, k < wr.heap.size := fun k hk => HP.out.a.lt k hk
                  have hbxT : ∀ k ∈ T0, k < wr.heap.size := fun k hk => HP.out.b.lt k hk
                  have P3 : Hid (Pr w (wr.alloc (.cells #[.int .i64 4, .int .i64 nn, .int .i64 fr, .int .i64 to', .slice da data.length dc] 27)).drew bn br l S0 l T0) := (HP.out.grew gx).drew
                  generalize wr.alloc (.cells #[.int .i64 4, .int .i64 nn, .int .i64 fr, .int .i64 to', .slice da data.length dc] 27) = w3 at hb3 P3 ⊢
                  generalize wr.heap.size = bx at hb3 hbxS hbxT ⊢
                  have hxS : bx ∉ S0 := fun h => Nat.lt_irrefl _ (hbxS _ h)
                  have hxT : bx ∉ T0 := fun h => Nat.lt_irrefl _ (hbxT _ h)
                  have HP3 := Lib.hid (And.intro hxS hxT)
                  have e1 : w3.drew.cell? ⟨bx, 1, none⟩ = some (.int .i64 nn) := cell_is hb3 1 _ rfl
                  clear c0 c1 c2 c3 c4 hxS hxT hbxS hbxT hbx gx HlR
                  go_region_held3 (fun w' : World => w'.cell? ⟨bx, 1, none⟩ = some (.int .i64 nn))
                    (go_keep)
                    (first
                      | (go_at_call 16
                         (with_reducible refine (rnLate_any _ br l T0 PA.out.b nn).mono ?_)
                         rintro e wC ⟨TC, rfl, nC, fC, sC⟩
                         have PC := Lib.hid (PA.out.ref nC fC sC)
                         have x2 : wC.cell? ⟨bx, 1, none⟩ = some (.int .i64 nn) := cell_is (fC.keep hbA (fun h => HP3.out.2 h)) 1 _ rfl
                         clear nC fC sC)
                      | (go_at_call 15
                         (with_reducible refine (nLate_any _ bn l S0 PB.out.a nn).mono ?_)
                         rintro e wC ⟨SC, rfl, nC, fC, sC⟩
                         have PC := Lib.hid (PB.out.impl nC fC sC)
                         have x2 : wC.cell? ⟨bx, 1, none⟩ = some (.int .i64 nn) := cell_is (fC.keep hbB (fun h => HP3.out.1 h)) 1 _ rfl
                         clear nC fC sC)
                      | (go_at_call 15
                         (with_reducible refine (nLate_any _ bn l S0 P3.out.a nn).mono ?_)
                         rintro e wA ⟨SA, rfl, nA, fA, sA⟩
                         have PA := Lib.hid (P3.out.impl nA fA sA)
                         have hbA : wA.heap[bx]? = _ := fA.keep (w := w3.drew) hb3 (fun h => HP3.out.1 h)
                         have x2 : wA.cell? ⟨bx, 1, none⟩ = some (.int .i64 nn) := cell_is hbA 1 _ rfl
                         clear nA fA sA)
                      | (go_at_call 16
                         (with_reducible refine (rnLate_any _ br l T0 P3.out.b nn).mono ?_)
                         rintro e wB ⟨TB, rfl, nB, fB, sB⟩
                         have PB := Lib.hid (P3.out.ref nB fB sB)
                         have hbB : wB.heap[bx]? = _ := fB.keep (w := w3.drew) hb3 (fun h => HP3.out.2 h)
                         have x2 : wB.cell? ⟨bx, 1, none⟩ = some (.int .i64 nn) := cell_is hbB 1 _ rfl
                         clear nB fB sB))
                  all_goals
                    clear x2 e1
                    obtain ⟨va9, vc9, hbr9⟩ := PC.out.b.block
                    have e9 : ∀ s : Ext wC, s.w.cell? ⟨br, 0, none⟩ = some (.slice va9 (lateL l nn).length vc9) := ext_cell hbr9 0 _ rfl
                    have hPE := Lib.hid (⟨_, _, PC.out⟩ : Both w wC bn br (lateL l nn))
                    clear hbr9
                    go_wp2_with fail
                    refine wp_ext fun s => ?_
                    refine wp_region_ext _ (by kernel_rfl) (by kernel_rfl) ?_
                    repeat (go_big_quiet_step (exact nLen_ext PC.out.a))
                    refine wpQuiet_nil ?_
                    intro s2
                    go_wp2_with fail
                    go_roundg (gk - 1)
                    case measure => have := Hgk.out; omega
                    case rel => exact ⟨j + 1, lateL l nn, by omega, by have := Hgk.out; omega, by go_num, Both.grew hPE.out s2.h⟩
                · have hb4 : (kd == 4) = false := beq_eq_false_iff_ne.2 h4
                  by_cases h5 : kd = 5
                  · subst h5
                    clear h1 hb1 h2 hb2 h3 hb3 h4 hb4
                    go_wp2_with fail
                    have hb3 := hbx
                    have hbxS : ∀ k ∈ S0, k < wr.heap.size := fun k hk => HP.out.a.lt k hk
                    have hbxT : ∀ k ∈ T0, k < wr.heap.size := fun k hk => HP.out.b.lt k hk
                    have P3 : Hid (Pr w (wr.alloc (.cells #[.int .i64 5, .int .i64 nn, .int .i64 fr, .int .i64 to', .slice da data.length dc] 27)).drew bn br l S0 l T0) := (HP.out.grew gx).drew
                    generalize wr.alloc (.cells #[.int .i64 5, .int .i64 nn, .int .i64 fr, .int .i64 to', .slice da data.length dc] 27) = w3 at hb3 P3 ⊢
                    generalize wr.heap.size = bx at hb3 hbxS hbxT ⊢
                    have hxS : bx ∉ S0 := fun h => Nat.lt_irrefl _ (hbxS _ h)
                    have hxT : bx ∉ T0 := fun h => Nat.lt_irrefl _ (hbxT _ h)
                    have HP3 := Lib.hid (And.intro hxS hxT)
                    have e1 : w3.drew.cell? ⟨bx, 1, none⟩ = some (.int .i64 nn) := cell_is hb3 1 _ rfl
                    clear c0 c1 c2 c3 c4 hxS hxT hbxS hbxT hbx gx HlR
                    go_region_held3 (fun w' : World => w'.cell? ⟨bx, 1, none⟩ = some (.int .i64 nn))
                      (go_keep)
                      (first
                        | (go_at_call 18
                           (with_reducible refine (rnDrop_any _ br l T0 PA.out.b nn).mono ?_)
                           rintro e wC ⟨TC, rfl, nC, fC, sC⟩
                           have PC := Lib.hid (PA.out.ref nC fC sC)
                           have x2 : wC.cell? ⟨bx, 1, none⟩ = some (.int .i64 nn) := cell_is (fC.keep hbA (fun h => HP3.out.2 h)) 1 _ rfl
                           clear nC fC sC)
                        | (go_at_call 17
                           (with_reducible refine (nDrop_any _ bn l S0 PB.out.a nn).mono ?_)
                           rintro e wC ⟨SC, rfl, nC, fC, sC⟩
                           have PC := Lib.hid (PB.out.impl nC fC sC)
                           have x2 : wC.cell? ⟨bx, 1, none⟩ = some (.int .i64 nn) := cell_is (fC.keep hbB (fun h => HP3.out.1 h)) 1 _ rfl
                           clear nC fC sC)
                        | (go_at_call 17
                           (with_reducible refine (nDrop_any _ bn l S0 P3.out.a nn).mono ?_)
                           rintro e wA ⟨SA, rfl, nA, fA, sA⟩
                           have PA := Lib.hid (P3.out.impl nA fA sA)
                           have hbA : wA.heap[bx]? = _ := fA.keep (w := w3.drew) hb3 (fun h => HP3.out.1 h)
                           have x2 : wA.cell? ⟨bx, 1, none⟩ = some (.int .i64 nn) := cell_is hbA 1 _ rfl
                           clear nA fA sA)
                        | (go_at_call 18
                           (with_reducible refine (rnDrop_any _ br l T0 P3.out.b nn).mono ?_)
                           rintro e wB ⟨TB, rfl, nB, fB, sB⟩
                           have PB := Lib.hid (P3.out.ref nB fB sB)
                           have hbB : wB.heap[bx]? = _ := fB.keep (w := w3.drew) hb3 (fun h => HP3.out.2 h)
                           have x2 : wB.cell? ⟨bx, 1, none⟩ = some (.int .i64 nn) := cell_is hbB 1 _ rfl
                           clear nB fB sB))
                    all_goals
                      clear x2 e1
                      obtain ⟨va9, vc9, hbr9⟩ := PC.out.b.block
                      have e9 : ∀ s : Ext wC, s.w.cell? ⟨br, 0, none⟩ = some (.slice va9 (dropL l nn).length vc9) := ext_cell hbr9 0 _ rfl
                      have hPE := Lib.hid (⟨_, _, PC.out⟩ : Both w wC bn br (dropL l nn))
                      clear hbr9
                      go_wp2_with fail
                      refine wp_ext fun s => ?_
                      refine wp_region_ext _ (by kernel_rfl) (by kernel_rfl) ?_
                      repeat (go_big_quiet_step (exact nLen_ext PC.out.a))
                      refine wpQuiet_nil ?_
                      intro s2
                      go_wp2_with fail
                      go_roundg (gk - 1)
                      case measure => have := Hgk.out; omega
                      case rel => exact ⟨j + 1, dropL l nn, by omega, by have := Hgk.out; omega, by go_num, Both.grew hPE.out s2.h⟩
                  · have hb5 : (kd == 5) = false := beq_eq_false_iff_ne.2 h5
                    have PC := Lib.hid (HP.out.grew gx)
                    clear h1 h2 h3 h4 h5
                    go_wp2_with fail
                    generalize wr.alloc (.cells #[.int .i64 kd, .int .i64 nn, .int .i64 fr, .int .i64 to', .slice da data.length dc] 27) = wC at PC ⊢
                    obtain ⟨va9, vc9, hbr9⟩ := PC.out.b.block
                    have e9 : ∀ s : Ext wC, s.w.cell? ⟨br, 0, none⟩ = some (.slice va9 (l).length vc9) := ext_cell hbr9 0 _ rfl
                    have hPE := Lib.hid (⟨_, _, PC.out⟩ : Both w wC bn br (l))
                    clear hbr9
                    go_wp2_with fail
                    refine wp_ext fun s => ?_
                    refine wp_region_ext _ (by kernel_rfl) (by kernel_rfl) ?_
                    repeat (go_big_quiet_step (exact nLen_ext PC.out.a))
                    refine wpQuiet_nil ?_
                    intro s2
                    go_wp2_with fail
                    go_roundg (gk - 1)
                    case measure => have := Hgk.out; omega
                    case rel => exact ⟨j + 1, l, by omega, by have := Hgk.out; omega, by go_num, Both.grew hPE.out s2.h⟩
        · obtain rfl : j = rows.length := by omega
          skip
          go_wp2_with fail
          have hl0 : l.length ≤ 1024 := by obtain ⟨_, _, _, _, _, _, _, _, h, _⟩ := HP.out.a; simpa using h
          clear hlt hj Hgk
          go_loopg [15, 16, 17, 18] (l.length + 1) (fun gk _ _ _ _ wq => ∃ l' : List Mg, Both w wq bn br l' ∧ gk = l'.length + 1)
          case atStart => exact ⟨l, ⟨S0, T0, HP.out⟩, rfl⟩
          case round =>
            obtain ⟨l', hP', hgk⟩ := hrel
            obtain ⟨S1, T1, hpr1⟩ := hP'
            have P2 := Lib.hid hpr1
            have Hgk := Lib.hid hgk
            clear hpr1 hgk HP hgw hl0
            by_cases hl1 : 0 < l'.length
            · have eo : giveOk l' = true := by simp [giveOk, hl1]
              have ell : (giveL l' 0).length = l'.length - 1 := by
                unfold giveL; rw [if_pos hl1]; exact List.length_eraseIdx_of_lt (pickAt_lt 0 hl1)
              have Hell := Lib.hid ell
              have Heo := Lib.hid eo
              clear ell eo
              go_wp2_with (first
                | (go_at_call 10
                   (with_reducible refine (nGive_any _ bn _ S1 P2.out.a 0).mono ?_)
                   rintro e wA ⟨SA, va, ca, rfl, nA, oA, fA, sA, dA, mA⟩
                   have PA := Lib.hid (P2.out.impl nA fA sA)
                   have gm := grew_alloc wA (.cells #[.int .i64 (giveM l' 0).frm, .int .i64 (giveM l' 0).to, .slice va (giveM l' 0).data.length ca] 25)
                   have hbm := heap_alloc_new' wA (.cells #[.int .i64 (giveM l' 0).frm, .int .i64 (giveM l' 0).to, .slice va (giveM l' 0).data.length ca] 25)
                   have hTA : ∀ k ∈ T1, k < wA.heap.size := fun k hk => PA.out.b.lt k hk
                   rw [Heo.out])
                | (go_at_call 11
                   (with_reducible refine (rnGive_any _ br _ T1 (PA.out.grew gm).b 0).mono ?_)
                   rintro e wB ⟨TB, vb, cb, rfl, nB, oB, fB, sB, dB, mB⟩
                   have PB := Lib.hid ((PA.out.grew gm).ref nB fB sB)
                   have hbm2 := fB.keep hbm (fun h => Nat.lt_irrefl _ (hTA _ h))
                   have y0 : wB.cell? ⟨wA.heap.size, 0, none⟩ = some (.int .i64 (giveM l' 0).frm) := cell_is hbm2 0 _ rfl
                   have y1 : wB.cell? ⟨wA.heap.size, 1, none⟩ = some (.int .i64 (giveM l' 0).to) := cell_is hbm2 1 _ rfl
                   have y2 : wB.cell? ⟨wA.heap.size, 2, none⟩ = some (.slice va (giveM l' 0).data.length ca) := cell_is hbm2 2 _ rfl
                   have lB := lt_of_heap hbm2
                   have go := grew_alloc wB (.cells #[.int .i64 (giveM l' 0).frm, .int .i64 (giveM l' 0).to, .slice vb (giveM l' 0).data.length cb] 25)
                   have oA2 := Lib.hid (((oA.keepG gm).keep fB (fun k hk hkT => P2.out.apart k (dA k hk).1 hkT)).keepG go)
                   have oB2 := Lib.hid (oB.keepG go)
                   rw [Heo.out])
                | (go_at_call 12
                   (with_reducible refine (messages_spec _ _ _ _ _ (giveM l' 0).data oA2.out.rd oB2.out.rd).mono ?_)
                   rintro e wC ⟨rfl, gC⟩
                   have PC := Lib.hid ((PB.out.grew go).grew gC))
                | (go_at_call 20
                   (with_reducible refine (known_spec _).mono ?_)
                   rintro e w9 ⟨rfl, hg9⟩))
              go_roundg (gk - 1)
              case measure => have := Hgk.out; omega
              case rel => exact ⟨giveL l' 0, ⟨_, _, PC.out⟩, by have h1 := Hgk.out; have h2 := Hell.out; omega⟩
            · have eo : giveOk l' = false := by simp [giveOk, hl1]
              have Heo := Lib.hid eo
              clear eo
              go_wp2_with (first
                | (go_at_call 10
                   (with_reducible refine (nGive_any _ bn _ S1 P2.out.a 0).mono ?_)
                   rintro e wA ⟨SA, va, ca, rfl, nA, oA, fA, sA, dA, mA⟩
                   have PA := Lib.hid (P2.out.impl nA fA sA)
                   have gm := grew_alloc wA (.cells #[.int .i64 (giveM l' 0).frm, .int .i64 (giveM l' 0).to, .slice va (giveM l' 0).data.length ca] 25)
                   have hbm := heap_alloc_new' wA (.cells #[.int .i64 (giveM l' 0).frm, .int .i64 (giveM l' 0).to, .slice va (giveM l' 0).data.length ca] 25)
                   have hTA : ∀ k ∈ T1, k < wA.heap.size := fun k hk => PA.out.b.lt k hk
                   rw [Heo.out])
                | (go_at_call 11
                   (with_reducible refine (rnGive_any _ br _ T1 (PA.out.grew gm).b 0).mono ?_)
                   rintro e wB ⟨TB, vb, cb, rfl, nB, oB, fB, sB, dB, mB⟩
                   have PB := Lib.hid ((PA.out.grew gm).ref nB fB sB)
                   have hbm2 := fB.keep hbm (fun h => Nat.lt_irrefl _ (hTA _ h))
                   have y0 : wB.cell? ⟨wA.heap.size, 0, none⟩ = some (.int .i64 (giveM l' 0).frm) := cell_is hbm2 0 _ rfl
                   have y1 : wB.cell? ⟨wA.heap.size, 1, none⟩ = some (.int .i64 (giveM l' 0).to) := cell_is hbm2 1 _ rfl
                   have y2 : wB.cell? ⟨wA.heap.size, 2, none⟩ = some (.slice va (giveM l' 0).data.length ca) := cell_is hbm2 2 _ rfl
                   have lB := lt_of_heap hbm2
                   have go := grew_alloc wB (.cells #[.int .i64 (giveM l' 0).frm, .int .i64 (giveM l' 0).to, .slice vb (giveM l' 0).data.length cb] 25)
                   have oA2 := Lib.hid (((oA.keepG gm).keep fB (fun k hk hkT => P2.out.apart k (dA k hk).1 hkT)).keepG go)
                   have oB2 := Lib.hid (oB.keepG go)
                   rw [Heo.out])
                | (go_at_call 12
                   (with_reducible refine (messages_spec _ _ _ _ _ (giveM l' 0).data oA2.out.rd oB2.out.rd).mono ?_)
                   rintro e wC ⟨rfl, gC⟩
                   have PC := Lib.hid ((PB.out.grew go).grew gC))
                | (go_at_call 20
                   (with_reducible refine (known_spec _).mono ?_)
                   rintro e w9 ⟨rfl, hg9⟩))
              go_ret
              exact ⟨rfl, Grew.trans PC.out.g hg9⟩
end Go.Proofs.Ytccknjnbpccmhaa
