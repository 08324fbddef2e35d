/- The gate, for Rename and Cut. -/
import Derived.Test.YtjcjajpndchfdaaG
namespace Go.Proofs.Ytjcjajpndchfdaa
open Go.RowKit

set_option maxRecDepth 100000 in
set_option maxHeartbeats 2000000 in
theorem gate_rename (w : World) (bd : Nat) (D : MD) (S : List Nat) (hD : DiskAt w bd D S) (ns : List ByteArray) (hns : ns.length ≤ 2) (bn : Nat) (hbn : w.heap[bn]? = some (.cells (ns.map Value.string).toArray 9 (0, 0))) (_hbnS : bn ∉ S) (n : Int) (pa : Option Addr) (pl pc : Nat)
    (hsz : ∀ s ∈ ns, s.size ≤ 9223372036854775807) (r : Int × MD) (hrf : r.2.fuse = D.fuse) (hr0 : r.1 ≠ 0 → r.2 = D)
    (hdoes : ∀ W : World, Grew w W → (∀ s ∈ ns, s.size ≤ 64) → Calls Try.prog 34 #[.pointer (some ⟨bd, 0, none⟩), .agg #[.slice (some ⟨bn, 0, none⟩) ns.length ns.length, .int .i64 n, .slice pa pl pc]] W (DiskPost W bd S r)) :
    Calls Try.prog 29 #[.pointer (some ⟨bd, 0, none⟩), .func (.func 34) #[.pointer (some ⟨bd, 0, none⟩)] #[], .agg #[.slice (some ⟨bn, 0, none⟩) ns.length ns.length, .int .i64 n, .slice pa pl pc]] w (DiskPost w bd S (MD.gate D ns r)) := by
  have hD0 := hD
  obtain ⟨bm, fused, left, rows, h1, h2, h3, h4, h5, hS, hnd, hok⟩ := hD
  clear h5 hS hnd
  have Hdoes := Lib.hid hdoes
  have Hr0 := Lib.hid hr0
  have Hrf := Lib.hid hrf
  have Hsz := Lib.hid hsz
  clear hdoes hr0 hrf hsz
  have l1 := lt_of_heap h1
  have l2 := lt_of_heap hbn
  have hlen : ns.length ≤ 9223372036854775807 := by omega
  obtain ⟨c, D'⟩ := r
  have hgate9 : D.fuse = some 0 → MD.gate D ns (c, D') = (9, D) := fun h => by unfold MD.gate; rw [if_pos h]
  have hgate1 : D.fuse ≠ some 0 → ns.any MD.badName = true → MD.gate D ns (c, D') = (1, D) := fun h h' => by unfold MD.gate; rw [if_neg h, if_pos h']
  have hgate0 : D.fuse ≠ some 0 → ns.any MD.badName = false → c = 0 → MD.gate D ns (c, D') = (0, { D' with fuse := D'.fuse.map (· - 1) }) := fun h h' hc => by
    unfold MD.gate; rw [if_neg h, if_neg (by rw [h']; simp), if_pos hc]
  have hgatec : D.fuse ≠ some 0 → ns.any MD.badName = false → c ≠ 0 → MD.gate D ns (c, D') = (c, D) := fun h h' hc => by
    unfold MD.gate; rw [if_neg h, if_neg (by rw [h']; simp), if_neg hc]
  have Hg9 := Lib.hid hgate9
  have Hg1 := Lib.hid hgate1
  have Hg0 := Lib.hid hgate0
  have Hgc := Lib.hid hgatec
  clear hgate9 hgate1 hgate0 hgatec
  have c1 := cell_is h1 2 _ rfl
  have c3 := cell_is h1 3 _ rfl
  generalize hX : Obj.cells #[.slice (some ⟨bn, 0, none⟩) ns.length ns.length, .int .i64 n, .slice pa pl pc] 64 = X
  have gX := grew_alloc w X
  by_cases hz : D.fuse = some 0
  · rw [hz] at h2
    obtain ⟨rfl, rfl⟩ := h2
    have Hz := Lib.hid hz
    clear hz
    go_enter Try.func29, Try.ntmps29
    go_wp2_with fail
    go_ret
    exact DiskPost.same 9 hD0 (Hg9.out Hz.out) rfl (grew_alloc w _) (hD0.keepG (grew_alloc w _))
  · have Hz := Lib.hid hz
    clear hz
    cases hfu : D.fuse with
    | none =>
      rw [hfu] at h2
      obtain rfl := h2
      have Hfu := Lib.hid hfu
      clear hfu
      go_enter Try.func29, Try.ntmps29
      subst hX
      go_wp2_with fail
      go_loopg [8, 28] (ns.length + 1) (fun gk nm k wr => ∃ j : Nat, j ≤ ns.length ∧ gk + j = ns.length + 1 ∧ k = .int .i64 j ∧ wr = w.alloc (.cells #[.slice (some ⟨bn, 0, none⟩) ns.length ns.length, .int .i64 n, .slice pa pl pc] 64) ∧ (∀ i, i < j → ∀ s, ns[i]? = some s → MD.badName s = false))
      case atStart => exact ⟨0, Nat.zero_le _, rfl, rfl, rfl, fun i hi => by omega⟩
      case round =>
        obtain ⟨j, hj, hgk, rfl, rfl, hgood⟩ := hrel
        have Hgk := Lib.hid hgk
        have Hgd := Lib.hid hgood
        clear hgk hgood
        by_cases hlt : j < ns.length
        · have cj : w.cell? ⟨bn, j, none⟩ = some (.string ns[j]) := cell_is hbn j _ (by simp [hlt])
          have hszj := Hsz.out ns[j] (List.getElem_mem hlt)
          by_cases hbad : MD.badName ns[j] = true
          · have hany : ns.any MD.badName = true := List.any_eq_true.2 ⟨_, List.getElem_mem hlt, hbad⟩
            have Hany := Lib.hid hany
            have hb := (badName_iff _).1 hbad
            clear hany hbad
            rcases hb with hb | hb
            all_goals
              go_wp2_with fail
              go_ret
              exact DiskPost.same 1 hD0 (Hg1.out Hz.out Hany.out) rfl gX (hD0.keepG gX)
          · have hb : 1 ≤ ns[j].size ∧ ns[j].size ≤ 64 := by
              have h1 := mt (badName_iff ns[j]).2 hbad
              omega
            obtain ⟨hb1, hb2⟩ := hb
            have Hbad := Lib.hid hbad
            clear hbad
            go_wp2_with fail
            go_roundg (gk - 1)
            case measure => have := Hgk.out; omega
            case rel =>
              refine ⟨j + 1, by omega, by have := Hgk.out; omega, by go_num, rfl, fun i hi s hs => ?_⟩
              by_cases hij : i < j
              · exact Hgd.out i hij s hs
              · obtain rfl : i = j := by omega
                rw [List.getElem?_eq_getElem hlt] at hs
                obtain rfl := Option.some.inj hs
                simpa using Hbad.out
        · have hjl : j = ns.length := by omega
          have Hgood : Hid (ns.any MD.badName = false) := by
            show ns.any MD.badName = false
            rw [List.any_eq_false]
            intro s hs
            obtain ⟨i, hi, rfl⟩ := List.mem_iff_getElem.1 hs
            simpa using Hgd.out i (by omega) ns[i] (List.getElem?_eq_getElem hi)
          have hsizes : ∀ s ∈ ns, s.size ≤ 64 := by
            intro s hs
            have h1 := List.any_eq_false.1 Hgood.out s hs
            have h2 := mt (badName_iff s).2 h1
            omega
          have Hsizes := Lib.hid hsizes
          clear hsizes hjl
          by_cases hc : c = 0
          · subst hc
            have hfu' : D'.fuse = none := Hrf.out.trans Hfu.out
            have Hfu' := Lib.hid hfu'
            clear hfu'
            go_wp2_with
              (go_at_call 34
               (with_reducible refine (Hdoes.out _ gX Hsizes.out).mono ?_)
               rintro e w2 ⟨S', rfl, hd2, hf2, hs2⟩
               have hD2 := hd2
               obtain ⟨bm2, fused2, left2, rows2, q1, q2, _⟩ := hD2
               rw [Hfu'.out] at q2
               obtain rfl := q2
               have c2 := cell_is q1 2 _ rfl)
            go_ret
            have e : { D' with fuse := D'.fuse.map (· - 1) } = D' := by have := Hfu'.out; cases D'; simp at this; subst this; rfl
            exact DiskPost.mk 0 D' ((Hg0.out Hz.out Hgood.out (by trivial)).trans (by rw [e])) rfl hd2 (Grew.trans gX hf2) (fun k hk => (hs2 k hk).imp id (fun h => Nat.le_trans gX.size h))
          · have hcb : (c == 0) = false := by simpa using hc
            have Hc := Lib.hid hc
            clear hc
            go_wp2_with
              (go_at_call 34
               (with_reducible refine (Hdoes.out _ gX Hsizes.out).mono ?_)
               rintro e w2 ⟨S', rfl, hd2, hf2, hs2⟩)
            go_ret
            exact DiskPost.mk c D (Hgc.out Hz.out Hgood.out Hc.out) rfl ((Hr0.out Hc.out) ▸ hd2) (Grew.trans gX hf2) (fun k hk => (hs2 k hk).imp id (fun h => Nat.le_trans gX.size h))
    | some m =>
      rw [hfu] at h2
      obtain ⟨rfl, rfl⟩ := h2
      have hm0 : 0 < m := by
        rcases Nat.eq_zero_or_pos m with rfl | h
        · exact absurd hfu Hz.out
        · exact h
      have hmax := hok.fuse m hfu
      have hmz : (((m : Nat) : Int) == 0) = false := by simp; omega
      have Hfu := Lib.hid hfu
      clear hfu
      go_enter Try.func29, Try.ntmps29
      subst hX
      go_wp2_with fail
      go_loopg [8, 28] (ns.length + 1) (fun gk nm k wr => ∃ j : Nat, j ≤ ns.length ∧ gk + j = ns.length + 1 ∧ k = .int .i64 j ∧ wr = w.alloc (.cells #[.slice (some ⟨bn, 0, none⟩) ns.length ns.length, .int .i64 n, .slice pa pl pc] 64) ∧ (∀ i, i < j → ∀ s, ns[i]? = some s → MD.badName s = false))
      case atStart => exact ⟨0, Nat.zero_le _, rfl, rfl, rfl, fun i hi => by omega⟩
      case round =>
        obtain ⟨j, hj, hgk, rfl, rfl, hgood⟩ := hrel
        have Hgk := Lib.hid hgk
        have Hgd := Lib.hid hgood
        clear hgk hgood
        by_cases hlt : j < ns.length
        · have cj : w.cell? ⟨bn, j, none⟩ = some (.string ns[j]) := cell_is hbn j _ (by simp [hlt])
          have hszj := Hsz.out ns[j] (List.getElem_mem hlt)
          by_cases hbad : MD.badName ns[j] = true
          · have hany : ns.any MD.badName = true := List.any_eq_true.2 ⟨_, List.getElem_mem hlt, hbad⟩
            have Hany := Lib.hid hany
            have hb := (badName_iff _).1 hbad
            clear hany hbad
            rcases hb with hb | hb
            all_goals
              go_wp2_with fail
              go_ret
              exact DiskPost.same 1 hD0 (Hg1.out Hz.out Hany.out) rfl gX (hD0.keepG gX)
          · have hb : 1 ≤ ns[j].size ∧ ns[j].size ≤ 64 := by
              have h1 := mt (badName_iff ns[j]).2 hbad
              omega
            obtain ⟨hb1, hb2⟩ := hb
            have Hbad := Lib.hid hbad
            clear hbad
            go_wp2_with fail
            go_roundg (gk - 1)
            case measure => have := Hgk.out; omega
            case rel =>
              refine ⟨j + 1, by omega, by have := Hgk.out; omega, by go_num, rfl, fun i hi s hs => ?_⟩
              by_cases hij : i < j
              · exact Hgd.out i hij s hs
              · obtain rfl : i = j := by omega
                rw [List.getElem?_eq_getElem hlt] at hs
                obtain rfl := Option.some.inj hs
                simpa using Hbad.out
        · have hjl : j = ns.length := by omega
          have Hgood : Hid (ns.any MD.badName = false) := by
            show ns.any MD.badName = false
            rw [List.any_eq_false]
            intro s hs
            obtain ⟨i, hi, rfl⟩ := List.mem_iff_getElem.1 hs
            simpa using Hgd.out i (by omega) ns[i] (List.getElem?_eq_getElem hi)
          have hsizes : ∀ s ∈ ns, s.size ≤ 64 := by
            intro s hs
            have h1 := List.any_eq_false.1 Hgood.out s hs
            have h2 := mt (badName_iff s).2 h1
            omega
          have Hsizes := Lib.hid hsizes
          clear hsizes hjl
          by_cases hc : c = 0
          · subst hc
            have hfu' : D'.fuse = some m := Hrf.out.trans Hfu.out
            have Hfu' := Lib.hid hfu'
            clear hfu'
            go_wp2_with
              (go_at_call 34
               (with_reducible refine (Hdoes.out _ gX Hsizes.out).mono ?_)
               rintro e w2 ⟨S', rfl, hd2, hf2, hs2⟩
               have hD2 := hd2
               obtain ⟨bm2, fused2, left2, rows2, q1, q2, _⟩ := hD2
               rw [Hfu'.out] at q2
               obtain ⟨rfl, rfl⟩ := q2
               have c2 := cell_is q1 2 _ rfl
               have c4 := cell_is q1 3 _ rfl
               have f4 := frozen_of q1 3)
            go_ret
            have hb := disk_burn hd2 Hfu'.out hm0
            exact DiskPost.mk 0 _ (Hg0.out Hz.out Hgood.out (by trivial)) rfl hb.1 ((Grew.trans gX hf2).trans hb.2 (fun k hk h => (hs2 k h).elim id (fun h' => absurd hk (by have := gX.size; omega)))) (fun k hk => (hs2 k hk).imp id (fun h => Nat.le_trans gX.size h))
          · have hcb : (c == 0) = false := by simpa using hc
            have Hc := Lib.hid hc
            clear hc
            go_wp2_with
              (go_at_call 34
               (with_reducible refine (Hdoes.out _ gX Hsizes.out).mono ?_)
               rintro e w2 ⟨S', rfl, hd2, hf2, hs2⟩)
            go_ret
            exact DiskPost.mk c D (Hgc.out Hz.out Hgood.out Hc.out) rfl ((Hr0.out Hc.out) ▸ hd2) (Grew.trans gX hf2) (fun k hk => (hs2 k hk).imp id (fun h => Nat.le_trans gX.size h))
set_option maxRecDepth 100000 in
set_option maxHeartbeats 2000000 in
theorem gate_cut (w : World) (bd : Nat) (D : MD) (S : List Nat) (hD : DiskAt w bd D S) (ns : List ByteArray) (hns : ns.length ≤ 2) (bn : Nat) (hbn : w.heap[bn]? = some (.cells (ns.map Value.string).toArray 9 (0, 0))) (_hbnS : bn ∉ S) (n : Int) (pa : Option Addr) (pl pc : Nat)
    (hsz : ∀ s ∈ ns, s.size ≤ 9223372036854775807) (r : Int × MD) (hrf : r.2.fuse = D.fuse) (hr0 : r.1 ≠ 0 → r.2 = D)
    (hdoes : ∀ W : World, Grew w W → (∀ s ∈ ns, s.size ≤ 64) → Calls Try.prog 50 #[.pointer (some ⟨bd, 0, none⟩), .agg #[.slice (some ⟨bn, 0, none⟩) ns.length ns.length, .int .i64 n, .slice pa pl pc]] W (DiskPost W bd S r)) :
    Calls Try.prog 29 #[.pointer (some ⟨bd, 0, none⟩), .func (.func 50) #[.pointer (some ⟨bd, 0, none⟩)] #[], .agg #[.slice (some ⟨bn, 0, none⟩) ns.length ns.length, .int .i64 n, .slice pa pl pc]] w (DiskPost w bd S (MD.gate D ns r)) := by
  have hD0 := hD
  obtain ⟨bm, fused, left, rows, h1, h2, h3, h4, h5, hS, hnd, hok⟩ := hD
  clear h5 hS hnd
  have Hdoes := Lib.hid hdoes
  have Hr0 := Lib.hid hr0
  have Hrf := Lib.hid hrf
  have Hsz := Lib.hid hsz
  clear hdoes hr0 hrf hsz
  have l1 := lt_of_heap h1
  have l2 := lt_of_heap hbn
  have hlen : ns.length ≤ 9223372036854775807 := by omega
  obtain ⟨c, D'⟩ := r
  have hgate9 : D.fuse = some 0 → MD.gate D ns (c, D') = (9, D) := fun h => by unfold MD.gate; rw [if_pos h]
  have hgate1 : D.fuse ≠ some 0 → ns.any MD.badName = true → MD.gate D ns (c, D') = (1, D) := fun h h' => by unfold MD.gate; rw [if_neg h, if_pos h']
  have hgate0 : D.fuse ≠ some 0 → ns.any MD.badName = false → c = 0 → MD.gate D ns (c, D') = (0, { D' with fuse := D'.fuse.map (· - 1) }) := fun h h' hc => by
    unfold MD.gate; rw [if_neg h, if_neg (by rw [h']; simp), if_pos hc]
  have hgatec : D.fuse ≠ some 0 → ns.any MD.badName = false → c ≠ 0 → MD.gate D ns (c, D') = (c, D) := fun h h' hc => by
    unfold MD.gate; rw [if_neg h, if_neg (by rw [h']; simp), if_neg hc]
  have Hg9 := Lib.hid hgate9
  have Hg1 := Lib.hid hgate1
  have Hg0 := Lib.hid hgate0
  have Hgc := Lib.hid hgatec
  clear hgate9 hgate1 hgate0 hgatec
  have c1 := cell_is h1 2 _ rfl
  have c3 := cell_is h1 3 _ rfl
  generalize hX : Obj.cells #[.slice (some ⟨bn, 0, none⟩) ns.length ns.length, .int .i64 n, .slice pa pl pc] 64 = X
  have gX := grew_alloc w X
  by_cases hz : D.fuse = some 0
  · rw [hz] at h2
    obtain ⟨rfl, rfl⟩ := h2
    have Hz := Lib.hid hz
    clear hz
    go_enter Try.func29, Try.ntmps29
    go_wp2_with fail
    go_ret
    exact DiskPost.same 9 hD0 (Hg9.out Hz.out) rfl (grew_alloc w _) (hD0.keepG (grew_alloc w _))
  · have Hz := Lib.hid hz
    clear hz
    cases hfu : D.fuse with
    | none =>
      rw [hfu] at h2
      obtain rfl := h2
      have Hfu := Lib.hid hfu
      clear hfu
      go_enter Try.func29, Try.ntmps29
      subst hX
      go_wp2_with fail
      go_loopg [8, 28] (ns.length + 1) (fun gk nm k wr => ∃ j : Nat, j ≤ ns.length ∧ gk + j = ns.length + 1 ∧ k = .int .i64 j ∧ wr = w.alloc (.cells #[.slice (some ⟨bn, 0, none⟩) ns.length ns.length, .int .i64 n, .slice pa pl pc] 64) ∧ (∀ i, i < j → ∀ s, ns[i]? = some s → MD.badName s = false))
      case atStart => exact ⟨0, Nat.zero_le _, rfl, rfl, rfl, fun i hi => by omega⟩
      case round =>
        obtain ⟨j, hj, hgk, rfl, rfl, hgood⟩ := hrel
        have Hgk := Lib.hid hgk
        have Hgd := Lib.hid hgood
        clear hgk hgood
        by_cases hlt : j < ns.length
        · have cj : w.cell? ⟨bn, j, none⟩ = some (.string ns[j]) := cell_is hbn j _ (by simp [hlt])
          have hszj := Hsz.out ns[j] (List.getElem_mem hlt)
          by_cases hbad : MD.badName ns[j] = true
          · have hany : ns.any MD.badName = true := List.any_eq_true.2 ⟨_, List.getElem_mem hlt, hbad⟩
            have Hany := Lib.hid hany
            have hb := (badName_iff _).1 hbad
            clear hany hbad
            rcases hb with hb | hb
            all_goals
              go_wp2_with fail
              go_ret
              exact DiskPost.same 1 hD0 (Hg1.out Hz.out Hany.out) rfl gX (hD0.keepG gX)
          · have hb : 1 ≤ ns[j].size ∧ ns[j].size ≤ 64 := by
              have h1 := mt (badName_iff ns[j]).2 hbad
              omega
            obtain ⟨hb1, hb2⟩ := hb
            have Hbad := Lib.hid hbad
            clear hbad
            go_wp2_with fail
            go_roundg (gk - 1)
            case measure => have := Hgk.out; omega
            case rel =>
              refine ⟨j + 1, by omega, by have := Hgk.out; omega, by go_num, rfl, fun i hi s hs => ?_⟩
              by_cases hij : i < j
              · exact Hgd.out i hij s hs
              · obtain rfl : i = j := by omega
                rw [List.getElem?_eq_getElem hlt] at hs
                obtain rfl := Option.some.inj hs
                simpa using Hbad.out
        · have hjl : j = ns.length := by omega
          have Hgood : Hid (ns.any MD.badName = false) := by
            show ns.any MD.badName = false
            rw [List.any_eq_false]
            intro s hs
            obtain ⟨i, hi, rfl⟩ := List.mem_iff_getElem.1 hs
            simpa using Hgd.out i (by omega) ns[i] (List.getElem?_eq_getElem hi)
          have hsizes : ∀ s ∈ ns, s.size ≤ 64 := by
            intro s hs
            have h1 := List.any_eq_false.1 Hgood.out s hs
            have h2 := mt (badName_iff s).2 h1
            omega
          have Hsizes := Lib.hid hsizes
          clear hsizes hjl
          by_cases hc : c = 0
          · subst hc
            have hfu' : D'.fuse = none := Hrf.out.trans Hfu.out
            have Hfu' := Lib.hid hfu'
            clear hfu'
            go_wp2_with
              (go_at_call 50
               (with_reducible refine (Hdoes.out _ gX Hsizes.out).mono ?_)
               rintro e w2 ⟨S', rfl, hd2, hf2, hs2⟩
               have hD2 := hd2
               obtain ⟨bm2, fused2, left2, rows2, q1, q2, _⟩ := hD2
               rw [Hfu'.out] at q2
               obtain rfl := q2
               have c2 := cell_is q1 2 _ rfl)
            go_ret
            have e : { D' with fuse := D'.fuse.map (· - 1) } = D' := by have := Hfu'.out; cases D'; simp at this; subst this; rfl
            exact DiskPost.mk 0 D' ((Hg0.out Hz.out Hgood.out (by trivial)).trans (by rw [e])) rfl hd2 (Grew.trans gX hf2) (fun k hk => (hs2 k hk).imp id (fun h => Nat.le_trans gX.size h))
          · have hcb : (c == 0) = false := by simpa using hc
            have Hc := Lib.hid hc
            clear hc
            go_wp2_with
              (go_at_call 50
               (with_reducible refine (Hdoes.out _ gX Hsizes.out).mono ?_)
               rintro e w2 ⟨S', rfl, hd2, hf2, hs2⟩)
            go_ret
            exact DiskPost.mk c D (Hgc.out Hz.out Hgood.out Hc.out) rfl ((Hr0.out Hc.out) ▸ hd2) (Grew.trans gX hf2) (fun k hk => (hs2 k hk).imp id (fun h => Nat.le_trans gX.size h))
    | some m =>
      rw [hfu] at h2
      obtain ⟨rfl, rfl⟩ := h2
      have hm0 : 0 < m := by
        rcases Nat.eq_zero_or_pos m with rfl | h
        · exact absurd hfu Hz.out
        · exact h
      have hmax := hok.fuse m hfu
      have hmz : (((m : Nat) : Int) == 0) = false := by simp; omega
      have Hfu := Lib.hid hfu
      clear hfu
      go_enter Try.func29, Try.ntmps29
      subst hX
      go_wp2_with fail
      go_loopg [8, 28] (ns.length + 1) (fun gk nm k wr => ∃ j : Nat, j ≤ ns.length ∧ gk + j = ns.length + 1 ∧ k = .int .i64 j ∧ wr = w.alloc (.cells #[.slice (some ⟨bn, 0, none⟩) ns.length ns.length, .int .i64 n, .slice pa pl pc] 64) ∧ (∀ i, i < j → ∀ s, ns[i]? = some s → MD.badName s = false))
      case atStart => exact ⟨0, Nat.zero_le _, rfl, rfl, rfl, fun i hi => by omega⟩
      case round =>
        obtain ⟨j, hj, hgk, rfl, rfl, hgood⟩ := hrel
        have Hgk := Lib.hid hgk
        have Hgd := Lib.hid hgood
        clear hgk hgood
        by_cases hlt : j < ns.length
        · have cj : w.cell? ⟨bn, j, none⟩ = some (.string ns[j]) := cell_is hbn j _ (by simp [hlt])
          have hszj := Hsz.out ns[j] (List.getElem_mem hlt)
          by_cases hbad : MD.badName ns[j] = true
          · have hany : ns.any MD.badName = true := List.any_eq_true.2 ⟨_, List.getElem_mem hlt, hbad⟩
            have Hany := Lib.hid hany
            have hb := (badName_iff _).1 hbad
            clear hany hbad
            rcases hb with hb | hb
            all_goals
              go_wp2_with fail
              go_ret
              exact DiskPost.same 1 hD0 (Hg1.out Hz.out Hany.out) rfl gX (hD0.keepG gX)
          · have hb : 1 ≤ ns[j].size ∧ ns[j].size ≤ 64 := by
              have h1 := mt (badName_iff ns[j]).2 hbad
              omega
            obtain ⟨hb1, hb2⟩ := hb
            have Hbad := Lib.hid hbad
            clear hbad
            go_wp2_with fail
            go_roundg (gk - 1)
            case measure => have := Hgk.out; omega
            case rel =>
              refine ⟨j + 1, by omega, by have := Hgk.out; omega, by go_num, rfl, fun i hi s hs => ?_⟩
              by_cases hij : i < j
              · exact Hgd.out i hij s hs
              · obtain rfl : i = j := by omega
                rw [List.getElem?_eq_getElem hlt] at hs
                obtain rfl := Option.some.inj hs
                simpa using Hbad.out
        · have hjl : j = ns.length := by omega
          have Hgood : Hid (ns.any MD.badName = false) := by
            show ns.any MD.badName = false
            rw [List.any_eq_false]
            intro s hs
            obtain ⟨i, hi, rfl⟩ := List.mem_iff_getElem.1 hs
            simpa using Hgd.out i (by omega) ns[i] (List.getElem?_eq_getElem hi)
          have hsizes : ∀ s ∈ ns, s.size ≤ 64 := by
            intro s hs
            have h1 := List.any_eq_false.1 Hgood.out s hs
            have h2 := mt (badName_iff s).2 h1
            omega
          have Hsizes := Lib.hid hsizes
          clear hsizes hjl
          by_cases hc : c = 0
          · subst hc
            have hfu' : D'.fuse = some m := Hrf.out.trans Hfu.out
            have Hfu' := Lib.hid hfu'
            clear hfu'
            go_wp2_with
              (go_at_call 50
               (with_reducible refine (Hdoes.out _ gX Hsizes.out).mono ?_)
               rintro e w2 ⟨S', rfl, hd2, hf2, hs2⟩
               have hD2 := hd2
               obtain ⟨bm2, fused2, left2, rows2, q1, q2, _⟩ := hD2
               rw [Hfu'.out] at q2
               obtain ⟨rfl, rfl⟩ := q2
               have c2 := cell_is q1 2 _ rfl
               have c4 := cell_is q1 3 _ rfl
               have f4 := frozen_of q1 3)
            go_ret
            have hb := disk_burn hd2 Hfu'.out hm0
            exact DiskPost.mk 0 _ (Hg0.out Hz.out Hgood.out (by trivial)) rfl hb.1 ((Grew.trans gX hf2).trans hb.2 (fun k hk h => (hs2 k h).elim id (fun h' => absurd hk (by have := gX.size; omega)))) (fun k hk => (hs2 k hk).imp id (fun h => Nat.le_trans gX.size h))
          · have hcb : (c == 0) = false := by simpa using hc
            have Hc := Lib.hid hc
            clear hc
            go_wp2_with
              (go_at_call 50
               (with_reducible refine (Hdoes.out _ gX Hsizes.out).mono ?_)
               rintro e w2 ⟨S', rfl, hd2, hf2, hs2⟩)
            go_ret
            exact DiskPost.mk c D (Hgc.out Hz.out Hgood.out Hc.out) rfl ((Hr0.out Hc.out) ▸ hd2) (Grew.trans gX hf2) (fun k hk => (hs2 k hk).imp id (fun h => Nat.le_trans gX.size h))
end Go.Proofs.Ytjcjajpndchfdaa
