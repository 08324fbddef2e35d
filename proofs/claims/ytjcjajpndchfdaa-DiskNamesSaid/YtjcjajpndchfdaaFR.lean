/- Disk.Rename. -/
import Derived.Test.YtjcjajpndchfdaaRN
namespace Go.Proofs.Ytjcjajpndchfdaa
open Go.RowKit

theorem renameIn_fuse (D : MD) (s t : ByteArray) : (MD.renameIn D s t).2.fuse = D.fuse := by
  unfold MD.renameIn; split <;> rfl
theorem renameIn_err (D : MD) (s t : ByteArray) : (MD.renameIn D s t).1 ≠ 0 → (MD.renameIn D s t).2 = D := by
  unfold MD.renameIn; split <;> simp

set_option maxRecDepth 100000 in
set_option maxHeartbeats 1000000 in
theorem dRename_spec (w : World) (bd : Nat) (D : MD) (S : List Nat) (hD : DiskAt w bd D S) (nm nm2 : ByteArray) (hnm : nm.size ≤ 9223372036854775807) (hnm2 : nm2.size ≤ 9223372036854775807) :
    Calls Try.prog 19 #[.pointer (some ⟨bd, 0, none⟩), .string nm, .string nm2] w (DiskPost w bd S (MD.rename D nm nm2)) := by
  have hlt := hD.lt
  have g1 := grew_alloc w (.cells #[.string nm, .string nm2] 9)
  have hgate := gate_rename (w.alloc (.cells #[.string nm, .string nm2] 9)) bd D S (hD.keepG g1) [nm, nm2] (by simp) w.heap.size (heap_alloc_new' w _) (fun h => by have := hlt _ h; omega) 0 none 0 0
    (fun s hs => by rcases List.mem_cons.1 hs with rfl | hs; exact hnm; rcases List.mem_cons.1 hs with rfl | hs; exact hnm2; cases hs)
    (MD.renameIn D nm nm2) (renameIn_fuse D nm nm2) (renameIn_err D nm nm2)
    (fun W g hs => rename_spec W bd D S (hD.keepG (Grew.trans g1 g)) nm nm2 (hs nm (by simp)) (hs nm2 (by simp)) w.heap.size (g.keepG (heap_alloc_new' w _)) 0 (.slice none 0 0))
  rw [show ([nm, nm2] : List ByteArray).length = 2 from rfl] at hgate
  have Hg := Lib.hid hgate
  clear hgate
  go_enter Try.func19, Try.ntmps19
  go_wp2_with
    (go_at_call 29;
     (with_reducible refine Hg.out.mono ?_)
     rintro e w2 ⟨S', rfl, hd2, hf2, hs2⟩)
  go_ret
  exact DiskPost.grew g1 ⟨S', rfl, hd2, hf2, hs2⟩
end Go.Proofs.Ytjcjajpndchfdaa
