/- slices.IndexFunc and slices.DeleteFunc at Drop's closure. -/
import Derived.Test.YtccknjnbpccmhaaD1
namespace Go.Proofs.Ytccknjnbpccmhaa
open Go.RowKit

/-- does a message go to the node, or come from it? -/
def hit (node : Int) (m : Mg) : Bool := m.frm == node || m.to == node

theorem set_cells (rows : List Mr) (i : Nat) (r : Mr) (hi : i < rows.length) :
    cellsOf (rows.set i r) = (((cellsOf rows).set (i * 3) (.int .i64 r.m.frm)).set (i * 3 + 1) (.int .i64 r.m.to)).set (i * 3 + 2) r.dv := by
  apply List.ext_getElem?
  intro q
  have hq : q = q / 3 * 3 + q % 3 := by omega
  have hl := cellsOf_length rows
  have hm : q % 3 < 3 := Nat.mod_lt _ (by omega)
  by_cases hn : q / 3 < rows.length
  · have h1 : (cellsOf (rows.set i r))[q]? = ((rows.set i r)[q / 3]'(by simpa using hn)).cells[q % 3]? := by
      conv => lhs; rw [hq]
      exact cellsOf_at _ _ _ (by simpa using hn) hm
    have h2 : (cellsOf rows)[q]? = (rows[q / 3]).cells[q % 3]? := by
      conv => lhs; rw [hq]
      exact cellsOf_at _ _ _ hn hm
    rw [h1]
    simp only [List.getElem?_set, List.length_set, List.getElem_set, hl, h2]
    by_cases hiq : i = q / 3
    · rw [if_pos hiq]
      have hc : q % 3 = 0 ∨ q % 3 = 1 ∨ q % 3 = 2 := by omega
      rcases hc with hc | hc | hc <;> rw [hc]
      · rw [if_neg (by omega), if_neg (by omega), if_pos (by omega), if_pos (by omega)]; rfl
      · rw [if_neg (by omega), if_pos (by omega), if_pos (by omega)]; rfl
      · rw [if_pos (by omega), if_pos (by omega)]; rfl
    · rw [if_neg hiq, if_neg (by omega), if_neg (by omega), if_neg (by omega)]
  · rw [List.getElem?_eq_none (by rw [cellsOf_length, List.length_set]; omega), List.getElem?_eq_none (by simp only [List.length_set, hl]; omega)]

theorem row_set {w : World} {g cap i : Nat} {rows : List Mr} (h : Row w (.slice (some ⟨g, 0, none⟩) rows.length cap) rows) (hi : i < rows.length) (r : Mr) :
    Row (((w.setCell ⟨g, i * 3, none⟩ (.int .i64 r.m.frm)).setCell ⟨g, i * 3 + 1, none⟩ (.int .i64 r.m.to)).setCell ⟨g, i * 3 + 2, none⟩ r.dv) (.slice (some ⟨g, 0, none⟩) rows.length cap) (rows.set i r) := by
  have hl := cellsOf_length rows
  rcases h.2 with ⟨h, _⟩ | ⟨g', cap', c', h', a2, a3, a4, a5, a6⟩
  · cases h
  · cases h'
    unfold Row
    rw [List.length_set]
    refine ⟨by rw [cellsOf_length, List.length_set], .inr ⟨g, cap, _, rfl, heap_setCell_eq (heap_setCell_eq (heap_setCell_eq a2 _ _) _ _) _ _, a3, by simpa using a4, a5, ?_⟩⟩
    rw [set_cells rows i r hi, ← a6]
    simp only [Array.toList_setIfInBounds, List.take_set]
theorem row_frozen {w : World} {g n cap : Nat} {rows : List Mr} (h : Own w 25 3 (.slice (some ⟨g, 0, none⟩) n cap) n (cellsOf rows)) (j : Nat) : w.frozen? ⟨g, j, none⟩ = false := by
  rcases h.2 with ⟨h, _⟩ | ⟨g', cap', c', h', a2, _⟩
  · cases h
  · cases h'; exact frozen_of a2 j

set_option maxRecDepth 100000 in
set_option maxHeartbeats 2000000 in
theorem dropC_spec (w : World) (f t node : Int) (dv : Value) (b3 : Nat) (h3 : w.heap[b3]? = some (.cells #[.int .i64 node] 3 (0, 0))) :
    Calls Try.prog 30 #[.agg #[.int .i64 f, .int .i64 t, dv], .pointer (some ⟨b3, 0, none⟩)] w fun e w' => e = .returned (.bool (f == node || t == node)) ∧ Grew w w' := by
  have c3 : w.cell? ⟨b3, 0, none⟩ = some (.int .i64 node) := cell_is h3 0 _ rfl
  have l3 := lt_of_heap h3
  cases h1 : (f == node) <;> cases h2 : (t == node)
  all_goals
    go_enter Try.func30, Try.ntmps30
    go_wp2_with fail
    go_ret
    exact ⟨rfl, grew_alloc w _⟩

set_option maxRecDepth 100000 in
set_option maxHeartbeats 2000000 in
theorem slIndexFunc_spec (w : World) (v : Value) (rows : List Mr) (h : Row w v rows) (hdvs : ∀ r ∈ rows, ∃ da dc, r.dv = .slice da r.m.data.length dc) (node : Int) (b3 : Nat) (h3 : w.heap[b3]? = some (.cells #[.int .i64 node] 3 (0, 0))) :
    Calls Try.prog 32 #[v, .func (.func 30) #[] #[.pointer (some ⟨b3, 0, none⟩)]] w fun e w' =>
      ∃ z : Int, e = .returned (.int .i64 z) ∧ Grew w w' ∧ ((z = -1 ∧ ∀ r ∈ rows, hit node r.m = false) ∨ ∃ (j : Nat) (hj : j < rows.length), z = j ∧ hit node rows[j].m = true ∧ ∀ i (hi : i < j), hit node (rows[i]'(by omega)).m = false) := by
  obtain ⟨va, vc, rfl, k1, k2, k3⟩ := h.rd.shape
  unfold maxLen at k2 k3
  have Hh := Lib.hid h
  clear h
  go_enter Try.func32, Try.ntmps32
  go_wp2_with fail
  go_loopg [5, 8] (rows.length + 1) (fun gk _ k wr => ∃ j : Nat, j ≤ rows.length ∧ gk + j = rows.length + 1 ∧ k = .int .i64 j ∧ Grew w wr ∧ ∀ i (hi : i < rows.length), i < j → hit node rows[i].m = false)
  case atStart => exact ⟨0, Nat.zero_le _, rfl, rfl, Frm.refl _ w, fun i _ hi => by omega⟩
  case round =>
    obtain ⟨j, hj, hgk, rfl, hg, hno⟩ := hrel
    have Hgk := Lib.hid hgk
    have Hno := Lib.hid hno
    clear hgk hno
    by_cases hlt : j < rows.length
    · obtain ⟨g, rfl⟩ : ∃ g, va = some ⟨g, 0, none⟩ := by
        rcases Hh.out.2 with ⟨_, h'⟩ | ⟨g, cap, c, h, _⟩
        · omega
        · cases h; exact ⟨g, rfl⟩
      obtain ⟨e0, e1, e2⟩ := row_cells (Hh.out.rd.keepG hg) hlt rfl
      have i1 : (0 : Int) ≤ (j : Int) := Int.natCast_nonneg _
      have i2 : (j : Int) < (rows.length : Int) := by omega
      obtain ⟨da, dc, hdv⟩ : ∃ da dc, rows[j].dv = .slice da rows[j].m.data.length dc := hdvs _ (List.getElem_mem hlt)
      rw [hdv] at e2
      cases hh : hit node rows[j].m with
      | true =>
        have Hh2 := Lib.hid hh
        have hh' : (rows[j].m.frm == node || rows[j].m.to == node) = true := hh
        clear hh
        go_wp2_with
          (go_at_call 30
           (with_reducible refine (dropC_spec _ rows[j].m.frm rows[j].m.to node _ b3 (hg.keepG h3)).mono ?_)
           rw [hh']
           rintro e w2 ⟨rfl, g2⟩)
        go_ret
        exact ⟨j, rfl, Grew.trans hg g2, .inr ⟨j, hlt, rfl, Hh2.out, fun i hi => Hno.out i (by omega) hi⟩⟩
      | false =>
        have Hh2 := Lib.hid hh
        have hh' : (rows[j].m.frm == node || rows[j].m.to == node) = false := hh
        clear hh
        go_wp2_with
          (go_at_call 30
           (with_reducible refine (dropC_spec _ rows[j].m.frm rows[j].m.to node _ b3 (hg.keepG h3)).mono ?_)
           rw [hh']
           rintro e w2 ⟨rfl, g2⟩)
        go_roundg (gk - 1)
        case measure => have := Hgk.out; omega
        case rel =>
          refine ⟨j + 1, by omega, by have := Hgk.out; omega, by go_num, Grew.trans hg g2, fun i hi hij => ?_⟩
          by_cases he : i < j
          · exact Hno.out i hi he
          · obtain rfl : i = j := by omega
            exact Hh2.out
    · go_wp2_with fail
      go_ret
      refine ⟨-1, rfl, hg, .inl ⟨rfl, fun r hr => ?_⟩⟩
      obtain ⟨i, hi, rfl⟩ := List.mem_iff_getElem.1 hr
      exact Hno.out i hi (by omega)
end Go.Proofs.Ytccknjnbpccmhaa
