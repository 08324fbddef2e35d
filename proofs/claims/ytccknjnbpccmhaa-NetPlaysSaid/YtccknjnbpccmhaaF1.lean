/- Twice's closure; picked; Give, Twice, Late, Len, New. -/
import Derived.Test.YtccknjnbpccmhaaD1
namespace Go.Proofs.Ytccknjnbpccmhaa
open Go.RowKit

set_option maxRecDepth 100000 in
set_option maxHeartbeats 2000000 in
theorem twiceC_spec (w : World) (bn : Nat) (l : List Mg) (S : List Nat) (h : NetAt 47 w bn l S) (k : Nat) (hk : k < l.length) (b1 : Nat) (hb1 : w.heap[b1]? = some (.cells #[.pointer (some ⟨bn, 0, none⟩)] 28 (0, 0))) :
    Calls Try.prog 27 #[.int .i64 k, .pointer (some ⟨b1, 0, none⟩)] w (NetPost 47 w bn S (.bool (netOk l)) (netSend l l[k])) := by
  have h0 := h
  obtain ⟨v, rows, h1, h2, h3, rfl, rfl, hnd, hlen, hdat⟩ := h
  rw [List.length_map] at hk hlen
  obtain ⟨va, vc, rfl, k1, k2, k3⟩ := h2.rd.shape
  unfold maxLen at k2 k3
  obtain ⟨g, rfl⟩ : ∃ g, va = some ⟨g, 0, none⟩ := by
    rcases h2.2 with ⟨h, h'⟩ | ⟨g, cap, c, h, _⟩
    · omega
    · cases h; exact ⟨g, rfl⟩
  obtain ⟨e0, e1, e2⟩ := row_cells h2.rd hk rfl
  have hB : OwnB w rows[k].dv rows[k].m.data := h3 _ (List.getElem_mem hk)
  obtain ⟨da, dc, hdv, _, _, _⟩ := hB.rd.shape
  rw [hdv] at e2 hB
  have c1 : w.drew.cell? ⟨b1, 0, none⟩ = some (.pointer (some ⟨bn, 0, none⟩)) := cell_is hb1 0 _ rfl
  have c2 : w.drew.cell? ⟨bn, 0, none⟩ = some (.slice (some ⟨g, 0, none⟩) rows.length vc) := cell_is h1 0 _ rfl
  have e0' : w.drew.cell? ⟨g, k * 3, none⟩ = _ := e0
  have e1' : w.drew.cell? ⟨g, k * 3 + 1, none⟩ = _ := e1
  have e2' : w.drew.cell? ⟨g, k * 3 + 2, none⟩ = _ := e2
  have hs := nSend_spec w.drew bn _ _ (h0.keepG ((Frm.refl _ w).drew)) rows[k].m.frm rows[k].m.to (.slice da rows[k].m.data.length dc) rows[k].m.data (hB.rd.of_eq (fun _ _ => rfl)) (hdat _ (List.mem_map.2 ⟨_, List.getElem_mem hk, rfl⟩))
  have Hs := Lib.hid hs
  clear hs hdv e0 e1 e2 hB h0
  go_enter Try.func27, Try.ntmps27
  go_wp2_with fail
  go_region_law (
    (go_simp
     go_at_call 6
     (with_reducible refine Hs.out.mono ?_)
     rintro e w2 ⟨S', rfl, n1, n2, n3⟩))
  all_goals go_wp2_with fail
  all_goals go_ret
  all_goals
    have n1' : NetAt 47 w2 bn (netSend (rows.map (·.m)) rows[k].m) S' := n1
    exact ⟨S', rfl, by simpa using n1', Grew.trans ((Frm.refl _ w).drew) n2, n3⟩

set_option maxRecDepth 100000 in
set_option maxHeartbeats 2000000 in
theorem picked_give (w : World) (bn : Nat) (l : List Mg) (S : List Nat) (h : NetAt 47 w bn l S) (hl : 0 < l.length) (pick : Int) (b1 b2 : Nat) (b : Bool) (R : World → Prop)
    (hdoes : Calls Try.prog 25 #[.int .i64 (pickAt l pick), .pointer (some ⟨b1, 0, none⟩), .pointer (some ⟨b2, 0, none⟩)] w (fun e w' => e = .returned (.bool b) ∧ R w')) :
    Calls Try.prog 24 #[.pointer (some ⟨bn, 0, none⟩), .int .i64 pick, .func (.func 25) #[] #[.pointer (some ⟨b1, 0, none⟩), .pointer (some ⟨b2, 0, none⟩)]] w (fun e w' => e = .returned (.bool b) ∧ R w') := by
  have hpk := pickAt_int pick hl
  obtain ⟨v, rows, h1, h2, h3, rfl, rfl, hnd, hlen, hdat⟩ := h
  rw [List.length_map] at hl hlen hpk
  obtain ⟨va, vc, rfl, k1, k2, k3⟩ := h2.rd.shape
  unfold maxLen at k2 k3
  have c1 : w.cell? ⟨bn, 0, none⟩ = some (.slice va rows.length vc) := cell_is h1 0 _ rfl
  generalize hkk : pickAt (rows.map (·.m)) pick = kk at hpk hdoes
  have hz : ((rows.length : Int) == 0) = false := beq_eq_false_iff_ne.2 (by omega)
  clear hkk
  have hlen0 : (rows.length : Int) ≠ 0 := by omega
  have hlp : (0 : Int) < (rows.length : Int) := by omega
  rcases Int.lt_or_le pick 0 with hp | hp
  · rw [Int.max_eq_left (by omega), Int.zero_emod] at hpk
    rw [← hpk] at hdoes
    have Hdoes := Lib.hid hdoes
    clear hdoes hpk
    go_enter Try.func24, Try.ntmps24
    go_wp2_with
      (go_at_call 25
       (with_reducible refine Hdoes.out.mono ?_)
       rintro e w2 ⟨rfl, hR⟩)
    all_goals go_ret
    all_goals exact ⟨rfl, hR⟩
  · rw [Int.max_eq_right hp] at hpk
    rw [← hpk] at hdoes
    have Hdoes := Lib.hid hdoes
    clear hdoes hpk
    rcases Int.lt_or_eq_of_le hp with hp | rfl
    · go_enter Try.func24, Try.ntmps24
      go_wp2_with
        (go_at_call 25
         (with_reducible refine Hdoes.out.mono ?_)
         rintro e w2 ⟨rfl, hR⟩)
      all_goals go_ret
      all_goals exact ⟨rfl, hR⟩
    · have Hdoes2 := Lib.hid (Hdoes.out)
      rw [Int.zero_emod] at Hdoes2
      clear Hdoes
      go_enter Try.func24, Try.ntmps24
      go_wp2_with
        (go_at_call 25
         (with_reducible refine Hdoes2.out.mono ?_)
         rintro e w2 ⟨rfl, hR⟩)
      all_goals go_ret
      all_goals exact ⟨rfl, hR⟩
set_option maxRecDepth 100000 in
set_option maxHeartbeats 2000000 in
theorem picked_none_give (w : World) (bn : Nat) (S : List Nat) (h : NetAt 47 w bn [] S) (pick : Int) (b1 b2 : Nat) :
    Calls Try.prog 24 #[.pointer (some ⟨bn, 0, none⟩), .int .i64 pick, .func (.func 25) #[] #[.pointer (some ⟨b1, 0, none⟩), .pointer (some ⟨b2, 0, none⟩)]] w (fun e w' => e = .returned (.bool false) ∧ w' = w) := by
  obtain ⟨v, rows, h1, h2, h3, hr, rfl, hnd, hlen, hdat⟩ := h
  obtain rfl : rows = [] := by cases rows; rfl; cases hr
  obtain ⟨va, vc, rfl, k1, k2, k3⟩ := h2.rd.shape
  have c1 : w.cell? ⟨bn, 0, none⟩ = some (.slice va 0 vc) := cell_is h1 0 _ rfl
  go_enter Try.func24, Try.ntmps24
  go_wp2_with fail
  go_ret
  exact ⟨rfl, rfl⟩
set_option maxRecDepth 100000 in
set_option maxHeartbeats 2000000 in
theorem picked_twice (w : World) (bn : Nat) (l : List Mg) (S : List Nat) (h : NetAt 47 w bn l S) (hl : 0 < l.length) (pick : Int) (b1 : Nat) (b : Bool) (R : World → Prop)
    (hdoes : Calls Try.prog 27 #[.int .i64 (pickAt l pick), .pointer (some ⟨b1, 0, none⟩)] w (fun e w' => e = .returned (.bool b) ∧ R w')) :
    Calls Try.prog 24 #[.pointer (some ⟨bn, 0, none⟩), .int .i64 pick, .func (.func 27) #[] #[.pointer (some ⟨b1, 0, none⟩)]] w (fun e w' => e = .returned (.bool b) ∧ R w') := by
  have hpk := pickAt_int pick hl
  obtain ⟨v, rows, h1, h2, h3, rfl, rfl, hnd, hlen, hdat⟩ := h
  rw [List.length_map] at hl hlen hpk
  obtain ⟨va, vc, rfl, k1, k2, k3⟩ := h2.rd.shape
  unfold maxLen at k2 k3
  have c1 : w.cell? ⟨bn, 0, none⟩ = some (.slice va rows.length vc) := cell_is h1 0 _ rfl
  generalize hkk : pickAt (rows.map (·.m)) pick = kk at hpk hdoes
  have hz : ((rows.length : Int) == 0) = false := beq_eq_false_iff_ne.2 (by omega)
  clear hkk
  have hlen0 : (rows.length : Int) ≠ 0 := by omega
  have hlp : (0 : Int) < (rows.length : Int) := by omega
  rcases Int.lt_or_le pick 0 with hp | hp
  · rw [Int.max_eq_left (by omega), Int.zero_emod] at hpk
    rw [← hpk] at hdoes
    have Hdoes := Lib.hid hdoes
    clear hdoes hpk
    go_enter Try.func24, Try.ntmps24
    go_wp2_with
      (go_at_call 27
       (with_reducible refine Hdoes.out.mono ?_)
       rintro e w2 ⟨rfl, hR⟩)
    all_goals go_ret
    all_goals exact ⟨rfl, hR⟩
  · rw [Int.max_eq_right hp] at hpk
    rw [← hpk] at hdoes
    have Hdoes := Lib.hid hdoes
    clear hdoes hpk
    rcases Int.lt_or_eq_of_le hp with hp | rfl
    · go_enter Try.func24, Try.ntmps24
      go_wp2_with
        (go_at_call 27
         (with_reducible refine Hdoes.out.mono ?_)
         rintro e w2 ⟨rfl, hR⟩)
      all_goals go_ret
      all_goals exact ⟨rfl, hR⟩
    · have Hdoes2 := Lib.hid (Hdoes.out)
      rw [Int.zero_emod] at Hdoes2
      clear Hdoes
      go_enter Try.func24, Try.ntmps24
      go_wp2_with
        (go_at_call 27
         (with_reducible refine Hdoes2.out.mono ?_)
         rintro e w2 ⟨rfl, hR⟩)
      all_goals go_ret
      all_goals exact ⟨rfl, hR⟩
set_option maxRecDepth 100000 in
set_option maxHeartbeats 2000000 in
theorem picked_none_twice (w : World) (bn : Nat) (S : List Nat) (h : NetAt 47 w bn [] S) (pick : Int) (b1 : Nat) :
    Calls Try.prog 24 #[.pointer (some ⟨bn, 0, none⟩), .int .i64 pick, .func (.func 27) #[] #[.pointer (some ⟨b1, 0, none⟩)]] w (fun e w' => e = .returned (.bool false) ∧ w' = w) := by
  obtain ⟨v, rows, h1, h2, h3, hr, rfl, hnd, hlen, hdat⟩ := h
  obtain rfl : rows = [] := by cases rows; rfl; cases hr
  obtain ⟨va, vc, rfl, k1, k2, k3⟩ := h2.rd.shape
  have c1 : w.cell? ⟨bn, 0, none⟩ = some (.slice va 0 vc) := cell_is h1 0 _ rfl
  go_enter Try.func24, Try.ntmps24
  go_wp2_with fail
  go_ret
  exact ⟨rfl, rfl⟩
set_option maxRecDepth 100000 in
set_option maxHeartbeats 2000000 in
theorem picked_late (w : World) (bn : Nat) (l : List Mg) (S : List Nat) (h : NetAt 47 w bn l S) (hl : 0 < l.length) (pick : Int) (b1 : Nat) (b : Bool) (R : World → Prop)
    (hdoes : Calls Try.prog 28 #[.int .i64 (pickAt l pick), .pointer (some ⟨b1, 0, none⟩)] w (fun e w' => e = .returned (.bool b) ∧ R w')) :
    Calls Try.prog 24 #[.pointer (some ⟨bn, 0, none⟩), .int .i64 pick, .func (.func 28) #[] #[.pointer (some ⟨b1, 0, none⟩)]] w (fun e w' => e = .returned (.bool b) ∧ R w') := by
  have hpk := pickAt_int pick hl
  obtain ⟨v, rows, h1, h2, h3, rfl, rfl, hnd, hlen, hdat⟩ := h
  rw [List.length_map] at hl hlen hpk
  obtain ⟨va, vc, rfl, k1, k2, k3⟩ := h2.rd.shape
  unfold maxLen at k2 k3
  have c1 : w.cell? ⟨bn, 0, none⟩ = some (.slice va rows.length vc) := cell_is h1 0 _ rfl
  generalize hkk : pickAt (rows.map (·.m)) pick = kk at hpk hdoes
  have hz : ((rows.length : Int) == 0) = false := beq_eq_false_iff_ne.2 (by omega)
  clear hkk
  have hlen0 : (rows.length : Int) ≠ 0 := by omega
  have hlp : (0 : Int) < (rows.length : Int) := by omega
  rcases Int.lt_or_le pick 0 with hp | hp
  · rw [Int.max_eq_left (by omega), Int.zero_emod] at hpk
    rw [← hpk] at hdoes
    have Hdoes := Lib.hid hdoes
    clear hdoes hpk
    go_enter Try.func24, Try.ntmps24
    go_wp2_with
      (go_at_call 28
       (with_reducible refine Hdoes.out.mono ?_)
       rintro e w2 ⟨rfl, hR⟩)
    all_goals go_ret
    all_goals exact ⟨rfl, hR⟩
  · rw [Int.max_eq_right hp] at hpk
    rw [← hpk] at hdoes
    have Hdoes := Lib.hid hdoes
    clear hdoes hpk
    rcases Int.lt_or_eq_of_le hp with hp | rfl
    · go_enter Try.func24, Try.ntmps24
      go_wp2_with
        (go_at_call 28
         (with_reducible refine Hdoes.out.mono ?_)
         rintro e w2 ⟨rfl, hR⟩)
      all_goals go_ret
      all_goals exact ⟨rfl, hR⟩
    · have Hdoes2 := Lib.hid (Hdoes.out)
      rw [Int.zero_emod] at Hdoes2
      clear Hdoes
      go_enter Try.func24, Try.ntmps24
      go_wp2_with
        (go_at_call 28
         (with_reducible refine Hdoes2.out.mono ?_)
         rintro e w2 ⟨rfl, hR⟩)
      all_goals go_ret
      all_goals exact ⟨rfl, hR⟩
set_option maxRecDepth 100000 in
set_option maxHeartbeats 2000000 in
theorem picked_none_late (w : World) (bn : Nat) (S : List Nat) (h : NetAt 47 w bn [] S) (pick : Int) (b1 : Nat) :
    Calls Try.prog 24 #[.pointer (some ⟨bn, 0, none⟩), .int .i64 pick, .func (.func 28) #[] #[.pointer (some ⟨b1, 0, none⟩)]] w (fun e w' => e = .returned (.bool false) ∧ w' = w) := by
  obtain ⟨v, rows, h1, h2, h3, hr, rfl, hnd, hlen, hdat⟩ := h
  obtain rfl : rows = [] := by cases rows; rfl; cases hr
  obtain ⟨va, vc, rfl, k1, k2, k3⟩ := h2.rd.shape
  have c1 : w.cell? ⟨bn, 0, none⟩ = some (.slice va 0 vc) := cell_is h1 0 _ rfl
  go_enter Try.func24, Try.ntmps24
  go_wp2_with fail
  go_ret
  exact ⟨rfl, rfl⟩

/-! ### New, Len -/
theorem nNew_spec (w : World) : Calls Try.prog 4 #[] w fun e w' => ∃ bn, e = .returned (.pointer (some ⟨bn, 0, none⟩)) ∧ NetAt 47 w' bn [] [bn] ∧ Grew w w' ∧ w.heap.size ≤ bn := by
  go_enter Try.func4, Try.ntmps4
  go_wp2_with fail
  go_ret
  exact ⟨w.heap.size, rfl, ⟨.slice none 0 0, [], heap_alloc_new' w _, Row.nil _, by simp, rfl, rfl, by simp, by simp, by simp⟩, grew_alloc w _, Nat.le_refl _⟩
theorem nLen_spec (w : World) (bn : Nat) (l : List Mg) (S : List Nat) (h : NetAt 47 w bn l S) : Calls Try.prog 19 #[.pointer (some ⟨bn, 0, none⟩)] w fun e w' => e = .returned (.int .i64 l.length) ∧ w' = w := by
  obtain ⟨v, rows, h1, h2, h3, rfl, rfl, hnd, hlen, hdat⟩ := h
  obtain ⟨va, vc, rfl, k1, k2, k3⟩ := h2.rd.shape
  have c1 : w.cell? ⟨bn, 0, none⟩ = some (.slice va rows.length vc) := cell_is h1 0 _ rfl
  go_enter Try.func19, Try.ntmps19
  go_wp2_with fail
  go_ret
  exact ⟨by simp, rfl⟩
end Go.Proofs.Ytccknjnbpccmhaa
