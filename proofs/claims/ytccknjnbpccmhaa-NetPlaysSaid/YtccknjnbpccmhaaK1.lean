/- The document's net: Twice, Late, Drop. -/
import Derived.Test.YtccknjnbpccmhaaJ1
namespace Go.Proofs.Ytccknjnbpccmhaa
open Go.RowKit

set_option maxRecDepth 100000 in
set_option maxHeartbeats 4000000 in
theorem rnTwice_none (w : World) (bn : Nat) (S : List Nat) (h : NetAt 33 w bn [] S) (pick : Int) :
    Calls Try.prog 14 #[.pointer (some ⟨bn, 0, none⟩), .int .i64 pick] w (NetPost 33 w bn S (.bool false) []) := by
  have h0 := h
  obtain ⟨v, rows, h1, h2, h3, hr, rfl, hnd, hlen, hdat⟩ := h
  obtain rfl : rows = [] := by cases rows; rfl; cases hr
  obtain ⟨va, vc, rfl, k1, k2, k3⟩ := h2.rd.shape
  clear hr
  have c1 : w.cell? ⟨bn, 0, none⟩ = some (.slice va 0 vc) := cell_is h1 0 _ rfl
  go_enter Try.func14, Try.ntmps14
  go_wp2_with fail
  go_ret
  exact ⟨_, rfl, h0, Frm.refl _ w, fun k hk => .inl hk⟩

set_option maxRecDepth 100000 in
set_option maxHeartbeats 4000000 in
theorem rnTwice_at (w : World) (bn : Nat) (l : List Mg) (S : List Nat) (h : NetAt 33 w bn l S) (k : Nat) (hk : k < l.length) (pick : Int) (hpk : (max 0 pick) % (l.length : Int) = k) :
    Calls Try.prog 14 #[.pointer (some ⟨bn, 0, none⟩), .int .i64 pick] w (NetPost 33 w bn S (.bool (netOk l)) (netSend l l[k])) := by
  have h0 := h
  obtain ⟨v, rows, h1, h2, h3, rfl, rfl, hnd, hlen, hdat⟩ := h
  rw [List.length_map] at hk hlen hpk
  obtain ⟨va, vc, rfl, k1, k2, k3⟩ := h2.rd.shape
  unfold maxLen at k2 k3
  obtain ⟨g, rfl⟩ : ∃ g, va = some ⟨g, 0, none⟩ := by
    rcases h2.2 with ⟨h, h'⟩ | ⟨g, cap, c, h, _⟩
    · omega
    · cases h; exact ⟨g, rfl⟩
  obtain ⟨e0, e1, e2⟩ := row_cells h2.rd hk rfl
  have hB : OwnB w rows[k].dv rows[k].m.data := h3 _ (List.getElem_mem hk)
  obtain ⟨da, dc, hdv, _, _, _⟩ := hB.rd.shape
  rw [hdv] at e2 hB
  have c1 : w.cell? ⟨bn, 0, none⟩ = some (.slice (some ⟨g, 0, none⟩) rows.length vc) := cell_is h1 0 _ rfl
  have c2 : w.drew.cell? ⟨bn, 0, none⟩ = some (.slice (some ⟨g, 0, none⟩) rows.length vc) := cell_is h1 0 _ rfl
  have e0' : w.drew.cell? ⟨g, k * 3, none⟩ = _ := e0
  have e1' : w.drew.cell? ⟨g, k * 3 + 1, none⟩ = _ := e1
  have e2' : w.drew.cell? ⟨g, k * 3 + 2, none⟩ = _ := e2
  have hs := rnSend_spec w.drew bn _ _ (h0.keepG ((Frm.refl _ w).drew)) rows[k].m.frm rows[k].m.to (.slice da rows[k].m.data.length dc) rows[k].m.data (hB.rd.of_eq (fun _ _ => rfl)) (hdat _ (List.mem_map.2 ⟨_, List.getElem_mem hk, rfl⟩))
  have Hs := Lib.hid hs
  have hz : ((rows.length : Int) == 0) = false := beq_eq_false_iff_ne.2 (by omega)
  have hlp : (0 : Int) < (rows.length : Int) := by omega
  have i1 : (0 : Int) ≤ (k : Int) := Int.natCast_nonneg _
  have i2 : (k : Int) < (rows.length : Int) := by omega
  obtain ⟨mx, hmx⟩ : ∃ mx, mx = max 0 pick := ⟨_, rfl⟩
  have hm0 : 0 ≤ mx := by omega
  have HM := Lib.hid hmx
  rw [← hmx] at hpk
  have htm : mx.tmod (rows.length : Int) = (k : Int) := by rw [Int.tmod_eq_emod_of_nonneg hm0]; exact hpk
  have hne : ¬ rows = [] := fun e => by rw [e] at hk; simp at hk
  clear hs hdv e0 e1 e2 hB h0 hmx
  go_enter Try.func14, Try.ntmps14
  go_wp2_with fail
  go_region_law (first
    | (refine step_max rfl _ rfl pick (by simp [Act.eval, Act.put]) ?_
       rw [← HM.out])
    | (go_simp
       go_at_call 7
       (with_reducible refine Hs.out.mono ?_)
       rintro e w2 ⟨S', rfl, n1, n2, n3⟩))
  all_goals go_wp2_with fail
  all_goals go_ret
  all_goals
    have n1' : NetAt 33 w2 bn (netSend (rows.map (·.m)) rows[k].m) S' := n1
    exact ⟨S', rfl, by simpa using n1', Grew.trans ((Frm.refl _ w).drew) n2, n3⟩

theorem rnTwice_spec (w : World) (bn : Nat) (l : List Mg) (S : List Nat) (h : NetAt 33 w bn l S) (pick : Int) (hl : 0 < l.length) :
    Calls Try.prog 14 #[.pointer (some ⟨bn, 0, none⟩), .int .i64 pick] w (NetPost 33 w bn S (.bool (netOk l)) (netSend l (l[pickAt l pick]'(pickAt_lt pick hl)))) :=
  rnTwice_at w bn l S h (pickAt l pick) (pickAt_lt pick hl) pick (pickAt_int pick hl)

/-! ### Late -/
theorem rnLate_none (w : World) (bn : Nat) (S : List Nat) (h : NetAt 33 w bn [] S) (pick : Int) :
    Calls Try.prog 16 #[.pointer (some ⟨bn, 0, none⟩), .int .i64 pick] w (NetPost 33 w bn S (.bool false) []) := by
  go_enter Try.func16, Try.ntmps16
  go_wp2_with
    (go_at_call 11
     (with_reducible refine (rnGive_spec w bn [] S h pick).mono ?_)
     rintro e w2 hp
     unfold GivePost at hp
     rw [if_neg (by simp)] at hp
     obtain ⟨rfl, g2⟩ := hp)
  go_ret
  exact ⟨_, rfl, h.keepG (g2.alloc _), Frm.of_grew (g2.alloc _), fun k hk => .inl hk⟩
end Go.Proofs.Ytccknjnbpccmhaa
