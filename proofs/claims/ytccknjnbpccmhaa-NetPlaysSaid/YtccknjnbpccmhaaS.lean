/- The law's helper: are two rows of bytes the same? -/
import Derived.Test.YtccknjnbpccmhaaC
namespace Go.Proofs.Ytccknjnbpccmhaa
open Go.RowKit

theorem Rd.addr {w : World} {e : TypeId} {size n : Nat} {v : Value} {xs : List Value} (h : Rd w e size v n xs) (hn : 0 < n) {a : Option Addr} {cap : Nat} (hv : v = .slice a n cap) : ∃ g off, a = some ⟨g, off, none⟩ := by
  rcases h.2 with ⟨rfl, h0⟩ | ⟨h0, _⟩ | ⟨g, off, cap', c, t, fr, rfl, _⟩
  · omega
  · omega
  · cases hv; exact ⟨g, off, rfl⟩

def BoolPost (w : World) (b : Bool) (e : Ending) (w' : World) : Prop := e = .returned (.bool b) ∧ Grew w w'

theorem list_eq_of {la lb : List UInt8} (hl : la.length = lb.length) (h : ∀ i (h1 : i < la.length) (h2 : i < lb.length), la[i] = lb[i]) : la = lb := List.ext_getElem hl h

set_option maxRecDepth 100000 in
set_option maxHeartbeats 1000000 in
theorem same_spec (w : World) (va vb : Value) (la lb : List UInt8) (ha : Bytes w va la) (hb : Bytes w vb lb) :
    Calls Try.prog 23 #[va, vb] w (BoolPost w (decide (la = lb))) := by
  obtain ⟨aa, ca, rfl, a1, a2, a3⟩ := ha.shape
  obtain ⟨ab, cb, rfl, b1, b2, b3⟩ := hb.shape
  have Ha := Lib.hid ha
  have Hb := Lib.hid hb
  clear ha hb
  unfold maxLen at a2 a3 b2 b3
  by_cases hl : la.length = lb.length
  · have hln : (((la.length : Nat) : Int) != ((lb.length : Nat) : Int)) = false := by simp [hl]
    have Hl := Lib.hid hl
    clear hl
    go_enter Try.func23, Try.ntmps23
    go_wp2_with fail
    go_loopg [5] (la.length + 1) (fun gk i wr => ∃ j : Nat, j ≤ la.length ∧ gk + j = la.length + 1 ∧ i = .int .i64 j ∧ Grew w wr ∧ ∀ i (h1 : i < la.length) (h2 : i < lb.length), i < j → la[i] = lb[i])
    case atStart => exact ⟨0, Nat.zero_le _, rfl, rfl, Frm.refl _ w, fun i _ _ hi => by omega⟩
    case round =>
      obtain ⟨j, hj, hgk, rfl, hg, hsame⟩ := hrel
      have Hgk := Lib.hid hgk
      have Hsame := Lib.hid hsame
      clear hgk hsame
      by_cases hlt : j < la.length
      · have hlt2 : j < lb.length := by have := Hl.out; omega
        obtain ⟨ga, oa, rfl⟩ := Ha.out.addr (by omega) rfl
        obtain ⟨gb, ob, rfl⟩ := Hb.out.addr (by omega) rfl
        have i1 : (0 : Int) ≤ (j : Int) := Int.natCast_nonneg _
        have i2 : (j : Int) < (la.length : Int) := by omega
        have i3 : (j : Int) < (lb.length : Int) := by omega
        have ca' : ∀ s : Ext wr, s.w.cell? ⟨ga, oa + j, none⟩ = some (.int .u8 (la[j].toNat : Int)) := fun s => bytes_cell (Ha.out.keepG (Grew.trans hg s.h)) j hlt
        have cb' : ∀ s : Ext wr, s.w.cell? ⟨gb, ob + j, none⟩ = some (.int .u8 (lb[j].toNat : Int)) := fun s => bytes_cell (Hb.out.keepG (Grew.trans hg s.h)) j hlt2
        go_wp2_with fail
        refine wp_ext fun s => ?_
        by_cases hne : la[j] = lb[j]
        · have hd : (((la[j].toNat : Nat) : Int) != ((lb[j].toNat : Nat) : Int)) = false := by simp [hne]
          have Hne := Lib.hid hne
          clear hne
          refine wp_region_ext _ (by kernel_rfl) (by kernel_rfl) ?_
          repeat (go_big_quiet_step (fail))
          refine wpQuiet_nil ?_
          intro s
          go_wp2_with fail
          go_roundg (gk - 1)
          case measure => have := Hgk.out; omega
          case rel =>
            refine ⟨j + 1, by omega, by have := Hgk.out; omega, by go_num, Grew.trans hg s.h, fun i h1 h2 hi => ?_⟩
            by_cases hij : i < j
            · exact Hsame.out i h1 h2 hij
            · obtain rfl : i = j := by omega
              exact Hne.out
        · have hd : (((la[j].toNat : Nat) : Int) != ((lb[j].toNat : Nat) : Int)) = true := by
            simp only [bne_iff_ne, ne_eq, Int.natCast_inj]
            exact fun h => hne (UInt8.toNat_inj.1 h)
          have Hne := Lib.hid hne
          clear hne
          refine wp_region_ext _ (by kernel_rfl) (by kernel_rfl) ?_
          repeat (go_big_quiet_step (fail))
          refine wpQuiet_nil ?_
          intro s
          go_wp2_with fail
          go_ret
          refine ⟨?_, Grew.trans hg s.h⟩
          rw [decide_eq_false (fun h => Hne.out (by subst h; rfl))]; rfl
      · go_wp2_with fail
        go_ret
        refine ⟨?_, hg⟩
        rw [decide_eq_true (list_eq_of Hl.out (fun i h1 h2 => Hsame.out i h1 h2 (by omega)))]; rfl
  · have hln : (((la.length : Nat) : Int) != ((lb.length : Nat) : Int)) = true := by simp only [bne_iff_ne, ne_eq, Int.natCast_inj]; exact hl
    have Hl := Lib.hid hl
    clear hl
    go_enter Try.func23, Try.ntmps23
    go_wp2_with fail
    go_ret
    refine ⟨?_, Frm.refl _ w⟩
    rw [decide_eq_false (fun h => Hl.out (by rw [h]))]; rfl
end Go.Proofs.Ytccknjnbpccmhaa
