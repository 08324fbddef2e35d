/- The five (Write, Sync, Remove), whole. -/
import Derived.Test.YtjcjajpndchfdaaG
namespace Go.Proofs.Ytjcjajpndchfdaa
open Go.RowKit

theorem writeIn_fuse (D : MD) (s : ByteArray) (p : List UInt8) : (MD.writeIn D s p).2.fuse = D.fuse := by unfold MD.writeIn; split <;> rfl
theorem writeIn_err (D : MD) (s : ByteArray) (p : List UInt8) : (MD.writeIn D s p).1 ≠ 0 → (MD.writeIn D s p).2 = D := by unfold MD.writeIn; split <;> simp
theorem syncIn_fuse (D : MD) (s : ByteArray) : (MD.syncIn D s).2.fuse = D.fuse := by unfold MD.syncIn; split <;> rfl
theorem syncIn_err (D : MD) (s : ByteArray) : (MD.syncIn D s).1 ≠ 0 → (MD.syncIn D s).2 = D := by unfold MD.syncIn; split <;> simp
theorem removeIn_fuse (D : MD) (s : ByteArray) : (MD.removeIn D s).2.fuse = D.fuse := by unfold MD.removeIn; split <;> rfl
theorem removeIn_err (D : MD) (s : ByteArray) : (MD.removeIn D s).1 ≠ 0 → (MD.removeIn D s).2 = D := by unfold MD.removeIn; split <;> simp

theorem DiskPost.grew {w w1 : World} {bd : Nat} {S : List Nat} {r : Int × MD} {e : Ending} {w' : World} (g : Grew w w1) (h : DiskPost w1 bd S r e w') : DiskPost w bd S r e w' := by
  obtain ⟨S', he, hd, hf, hs⟩ := h
  exact ⟨S', he, hd, Grew.trans g hf, fun k hk => (hs k hk).imp id (fun h => Nat.le_trans g.size h)⟩

set_option maxRecDepth 100000 in
set_option maxHeartbeats 1000000 in
theorem dWrite_spec (w : World) (bd : Nat) (D : MD) (S : List Nat) (hD : DiskAt w bd D S) (nm : ByteArray) (hnm : nm.size ≤ 9223372036854775807) (pv : Value) (p : List UInt8) (hp : Bytes w pv p) (hpS : ∀ k, rdBlock pv = some k → k ∉ S) (hpl : p.length ≤ 70368744177664) :
    Calls Try.prog 11 #[.pointer (some ⟨bd, 0, none⟩), .string nm, pv] w (DiskPost w bd S (MD.write D nm p)) := by
  obtain ⟨pa, pc, rfl, hp1, hp2, hp3⟩ := hp.shape
  have hlt := hD.lt
  have g1 := grew_alloc w (.cells #[.string nm] 9)
  have hgate := gate_write (w.alloc (.cells #[.string nm] 9)) bd D S (hD.keepG g1) [nm] (by simp) w.heap.size (heap_alloc_new' w _) (fun h => by have := hlt _ h; omega) 0 pa p.length pc (by simpa using hnm)
    (MD.writeIn D nm p) (writeIn_fuse D nm p) (writeIn_err D nm p)
    (fun W g hs => write_spec W bd D S (hD.keepG (Grew.trans g1 g)) nm (hs nm (by simp)) w.heap.size (g.keepG (heap_alloc_new' w _)) (fun h => by have := hlt _ h; omega) 0 (.slice pa p.length pc) p (hp.keepG (Grew.trans g1 g)) hpS hpl)
  rw [show ([nm] : List ByteArray).length = 1 from rfl] at hgate
  have Hg := Lib.hid hgate
  clear hgate
  go_enter Try.func11, Try.ntmps11
  go_wp2_with
    (go_at_call 29;
     (with_reducible refine Hg.out.mono ?_)
     rintro e w2 ⟨S', rfl, hd2, hf2, hs2⟩)
  go_ret
  exact DiskPost.grew g1 ⟨S', rfl, hd2, hf2, hs2⟩

set_option maxRecDepth 100000 in
set_option maxHeartbeats 1000000 in
theorem dSync_spec (w : World) (bd : Nat) (D : MD) (S : List Nat) (hD : DiskAt w bd D S) (nm : ByteArray) (hnm : nm.size ≤ 9223372036854775807) :
    Calls Try.prog 12 #[.pointer (some ⟨bd, 0, none⟩), .string nm] w (DiskPost w bd S (MD.sync D nm)) := by
  have hlt := hD.lt
  have g1 := grew_alloc w (.cells #[.string nm] 9)
  have hgate := gate_sync (w.alloc (.cells #[.string nm] 9)) bd D S (hD.keepG g1) [nm] (by simp) w.heap.size (heap_alloc_new' w _) (fun h => by have := hlt _ h; omega) 0 none 0 0 (by simpa using hnm)
    (MD.syncIn D nm) (syncIn_fuse D nm) (syncIn_err D nm)
    (fun W g hs => sync_spec W bd D S (hD.keepG (Grew.trans g1 g)) nm (hs nm (by simp)) w.heap.size (g.keepG (heap_alloc_new' w _)) 0 (.slice none 0 0))
  rw [show ([nm] : List ByteArray).length = 1 from rfl] at hgate
  have Hg := Lib.hid hgate
  clear hgate
  go_enter Try.func12, Try.ntmps12
  go_wp2_with
    (go_at_call 29;
     (with_reducible refine Hg.out.mono ?_)
     rintro e w2 ⟨S', rfl, hd2, hf2, hs2⟩)
  go_ret
  exact DiskPost.grew g1 ⟨S', rfl, hd2, hf2, hs2⟩

set_option maxRecDepth 100000 in
set_option maxHeartbeats 1000000 in
theorem dRemove_spec (w : World) (bd : Nat) (D : MD) (S : List Nat) (hD : DiskAt w bd D S) (nm : ByteArray) (hnm : nm.size ≤ 9223372036854775807) :
    Calls Try.prog 18 #[.pointer (some ⟨bd, 0, none⟩), .string nm] w (DiskPost w bd S (MD.remove D nm)) := by
  have hlt := hD.lt
  have g1 := grew_alloc w (.cells #[.string nm] 9)
  have hgate := gate_remove (w.alloc (.cells #[.string nm] 9)) bd D S (hD.keepG g1) [nm] (by simp) w.heap.size (heap_alloc_new' w _) (fun h => by have := hlt _ h; omega) 0 none 0 0 (by simpa using hnm)
    (MD.removeIn D nm) (removeIn_fuse D nm) (removeIn_err D nm)
    (fun W g hs => remove_spec W bd D S (hD.keepG (Grew.trans g1 g)) nm (hs nm (by simp)) w.heap.size (g.keepG (heap_alloc_new' w _)) 0 (.slice none 0 0))
  rw [show ([nm] : List ByteArray).length = 1 from rfl] at hgate
  have Hg := Lib.hid hgate
  clear hgate
  go_enter Try.func18, Try.ntmps18
  go_wp2_with
    (go_at_call 29;
     (with_reducible refine Hg.out.mono ?_)
     rintro e w2 ⟨S', rfl, hd2, hf2, hs2⟩)
  go_ret
  exact DiskPost.grew g1 ⟨S', rfl, hd2, hf2, hs2⟩
end Go.Proofs.Ytjcjajpndchfdaa
