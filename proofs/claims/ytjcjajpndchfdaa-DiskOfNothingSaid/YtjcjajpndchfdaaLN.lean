/- A disk that is none; the walk of DiskOfNothing. -/
import Derived.Test.YtjcjajpndchfdaaO
namespace Go.Proofs.Ytjcjajpndchfdaa
open Go.RowKit

def CodePost (w : World) (c : Value) (e : Ending) (w' : World) : Prop := e = .returned c ∧ Grew w w'

theorem gate_nil (w : World) (i : Nat) (a b c : Value) : Calls Try.prog 29 #[.pointer none, .func (.func i) #[.pointer none] #[], .agg #[a, b, c]] w (CodePost w (.int .i64 1)) := by
  go_enter Try.func29, Try.ntmps29
  go_wp2
  go_ret
  exact ⟨rfl, grew_alloc w _⟩

theorem dWrite_nil (w : World) (nm : ByteArray) (a : Option Addr) (n c : Nat) : Calls Try.prog 11 #[.pointer none, .string nm, .slice a n c] w (CodePost w (.int .i64 1)) := by
  go_enter Try.func11, Try.ntmps11
  go_wp2_with
    (go_at_call 29;
     (with_reducible refine (gate_nil _ _ _ _ _).mono ?_)
     rintro e w2 ⟨rfl, hg⟩)
  go_ret
  exact ⟨rfl, Grew.trans (grew_alloc w _) hg⟩
theorem dSync_nil (w : World) (nm : ByteArray) : Calls Try.prog 12 #[.pointer none, .string nm] w (CodePost w (.int .i64 1)) := by
  go_enter Try.func12, Try.ntmps12
  go_wp2_with
    (go_at_call 29;
     (with_reducible refine (gate_nil _ _ _ _ _).mono ?_)
     rintro e w2 ⟨rfl, hg⟩)
  go_ret
  exact ⟨rfl, Grew.trans (grew_alloc w _) hg⟩
theorem dCut_nil (w : World) (nm : ByteArray) (k : Int) : Calls Try.prog 28 #[.pointer none, .string nm, .int .i64 k] w (CodePost w (.int .i64 1)) := by
  go_enter Try.func28, Try.ntmps28
  go_wp2_with
    (go_at_call 29;
     (with_reducible refine (gate_nil _ _ _ _ _).mono ?_)
     rintro e w2 ⟨rfl, hg⟩)
  go_ret
  exact ⟨rfl, Grew.trans (grew_alloc w _) hg⟩
theorem dRename_nil (w : World) (nm : ByteArray) : Calls Try.prog 19 #[.pointer none, .string nm, .string nm] w (CodePost w (.int .i64 1)) := by
  go_enter Try.func19, Try.ntmps19
  go_wp2_with
    (go_at_call 29;
     (with_reducible refine (gate_nil _ _ _ _ _).mono ?_)
     rintro e w2 ⟨rfl, hg⟩)
  go_ret
  exact ⟨rfl, Grew.trans (grew_alloc w _) hg⟩
theorem dRemove_nil (w : World) (nm : ByteArray) : Calls Try.prog 18 #[.pointer none, .string nm] w (CodePost w (.int .i64 1)) := by
  go_enter Try.func18, Try.ntmps18
  go_wp2_with
    (go_at_call 29;
     (with_reducible refine (gate_nil _ _ _ _ _).mono ?_)
     rintro e w2 ⟨rfl, hg⟩)
  go_ret
  exact ⟨rfl, Grew.trans (grew_alloc w _) hg⟩

theorem dFuse_nil (w : World) (n : Int) : Calls Try.prog 17 #[.pointer none, .int .i64 n] w (CodePost w (.tuple #[])) := by
  go_enter Try.func17, Try.ntmps17
  go_wp2
  go_end0
  exact ⟨rfl, Frm.refl _ w⟩
theorem dCrash_nil (w : World) (n t : Int) : Calls Try.prog 13 #[.pointer none, .int .i64 n, .int .u8 t] w (CodePost w (.tuple #[])) := by
  go_enter Try.func13, Try.ntmps13
  go_wp2
  go_end0
  exact ⟨rfl, Frm.refl _ w⟩
theorem dRead_nil (w : World) (nm : ByteArray) : Calls Try.prog 14 #[.pointer none, .string nm] w (CodePost w (.tuple #[.slice none 0 0, .int .i64 7])) := by
  go_enter Try.func14, Try.ntmps14
  go_wp2
  go_ret2
  exact ⟨rfl, Frm.refl _ w⟩
theorem dNames_nil (w : World) : Calls Try.prog 21 #[.pointer none] w (CodePost w (.slice none 0 0)) := by
  go_enter Try.func21, Try.ntmps21
  go_wp2
  go_ret
  exact ⟨rfl, Frm.refl _ w⟩
theorem dUsed_nil (w : World) : Calls Try.prog 15 #[.pointer none] w (CodePost w (.int .i64 0)) := by
  go_enter Try.func15, Try.ntmps15
  go_wp2
  go_ret
  exact ⟨rfl, Frm.refl _ w⟩
theorem dCopy_nil (w : World) : Calls Try.prog 24 #[.pointer none] w (CodePost w (.pointer none)) := by
  go_enter Try.func24, Try.ntmps24
  go_wp2
  go_ret
  exact ⟨rfl, Frm.refl _ w⟩

set_option maxRecDepth 100000 in
set_option maxHeartbeats 2000000 in
theorem nothing_walk (w : World) (nm : ByteArray) (hnm : nm.size ≤ 140737488351232) (v : Value) (l : List UInt8) (hv : Bytes w v l) (hl : l.length ≤ 140737488351232) (n : Int) :
    Calls Try.prog 8 #[.string nm, v, .int .i64 n] w (BoolPost w true) := by
  obtain ⟨a, c, rfl, _, _, _⟩ := hv.shape
  clear hv
  have hW : Grew w w := Frm.refl _ w
  by_cases hmost : 8000 < nm.size + l.length
  · go_enter Try.func8, Try.ntmps8
    go_wp2
    go_ret
    exact ⟨rfl, hW⟩
  · go_enter Try.func8, Try.ntmps8
    go_wp2_with fail
    refine (dFuse_nil _ _).mono ?_
    rintro e w1 ⟨rfl, hg1⟩
    replace hW := Grew.trans hW hg1
    clear hg1
    go_wp2_with fail
    refine (dCrash_nil _ _ _).mono ?_
    rintro e w2 ⟨rfl, hg1⟩
    replace hW := Grew.trans hW hg1
    clear hg1
    go_wp2_with fail
    refine (dRead_nil _ _).mono ?_
    rintro e w3 ⟨rfl, hg1⟩
    replace hW := Grew.trans hW hg1
    clear hg1
    go_wp2_with fail
    refine (dWrite_nil _ _ _ _ _).mono ?_
    rintro e w4 ⟨rfl, hg1⟩
    replace hW := Grew.trans hW hg1
    clear hg1
    go_wp2_with fail
    refine (dSync_nil _ _).mono ?_
    rintro e w5 ⟨rfl, hg1⟩
    replace hW := Grew.trans hW hg1
    clear hg1
    go_wp2_with fail
    refine (dCut_nil _ _ _).mono ?_
    rintro e w6 ⟨rfl, hg1⟩
    replace hW := Grew.trans hW hg1
    clear hg1
    go_wp2_with fail
    refine (dRename_nil _ _).mono ?_
    rintro e w7 ⟨rfl, hg1⟩
    replace hW := Grew.trans hW hg1
    clear hg1
    go_wp2_with fail
    refine (dRemove_nil _ _).mono ?_
    rintro e w8 ⟨rfl, hg1⟩
    replace hW := Grew.trans hW hg1
    clear hg1
    go_wp2_with fail
    refine (dNames_nil _).mono ?_
    rintro e w9 ⟨rfl, hg1⟩
    replace hW := Grew.trans hW hg1
    clear hg1
    go_wp2_with fail
    refine (dUsed_nil _).mono ?_
    rintro e w10 ⟨rfl, hg1⟩
    replace hW := Grew.trans hW hg1
    clear hg1
    go_wp2_with fail
    refine (dCopy_nil _).mono ?_
    rintro e w11 ⟨rfl, hg1⟩
    replace hW := Grew.trans hW hg1
    clear hg1
    go_wp2_with fail
    refine (known_spec _).mono ?_
    rintro e w' ⟨rfl, hg⟩
    go_wp2_with fail
    go_ret
    exact ⟨rfl, Grew.trans hW hg⟩
end Go.Proofs.Ytjcjajpndchfdaa
