/- The law's known example. -/
import Derived.Test.YtjcjajpndchfdaaK
namespace Go.Proofs.Ytjcjajpndchfdaa
open Go.RowKit

abbrev nameA : ByteArray := ⟨#[97]⟩
theorem kn1 : MD.write ⟨100, [], none⟩ nameA [49, 50, 51, 52, 53] = (0, ⟨100, [(nameA, ⟨[49, 50, 51, 52, 53], 0⟩)], none⟩) := by kernel_rfl
theorem kn2 : MD.sync ⟨100, [(nameA, ⟨[49, 50, 51, 52, 53], 0⟩)], none⟩ nameA = (0, ⟨100, [(nameA, ⟨[49, 50, 51, 52, 53], 5⟩)], none⟩) := by kernel_rfl
theorem kn3 : MD.write ⟨100, [(nameA, ⟨[49, 50, 51, 52, 53], 5⟩)], none⟩ nameA [54, 55, 56] = (0, ⟨100, [(nameA, ⟨[49, 50, 51, 52, 53, 54, 55, 56], 5⟩)], none⟩) := by kernel_rfl
theorem kn4 : MD.crash ⟨100, [(nameA, ⟨[49, 50, 51, 52, 53, 54, 55, 56], 5⟩)], none⟩ 1 1 = ⟨100, [(nameA, ⟨[49, 50, 51, 52, 53, 55], 6⟩)], none⟩ := by kernel_rfl
theorem kn5 : readCode ⟨100, [(nameA, ⟨[49, 50, 51, 52, 53, 55], 6⟩)], none⟩ nameA = 0 := by kernel_rfl
theorem kn6 : readData ⟨100, [(nameA, ⟨[49, 50, 51, 52, 53, 55], 6⟩)], none⟩ nameA = [49, 50, 51, 52, 53, 55] := by kernel_rfl

/-- A constant row of bytes, as the walk lays it. -/
theorem bytes_const (w : World) (l : List UInt8) (C : Array Value) (fr : Nat × Nat) (hC : C = (l.map bc).toArray) (n : Nat) (hn : n = l.length) (hm : n ≤ maxLen) : Bytes (w.alloc (.cells C 5 fr)) (.slice (some ⟨w.heap.size, 0, none⟩) n n) l := by
  subst hC; subst hn
  exact ⟨by simp, .inr (.inr ⟨w.heap.size, 0, l.length, _, _, fr, rfl, heap_alloc_new' w _, Nat.le_refl _, hm, by simp [List.take_of_length_le]⟩)⟩

theorem grew_of_frm {w w1 w2 : World} {S : List Nat} (g : Grew w w1) (f : Frm (· ∈ S) w1 w2) (hS : ∀ k ∈ S, w.heap.size ≤ k) : Grew w w2 :=
  Frm.trans g f (fun k hk h => by have := hS k h; omega)

set_option maxRecDepth 100000 in
set_option maxHeartbeats 2000000 in
theorem known_spec (w : World) : Calls Try.prog 9 #[] w (BoolPost w true) := by
  have kc := fun (w : World) (C : Array Value) (n c : Nat) => Lib.run_convert_bytes_const (P := Try.prog) w 23 5 C n c Try.underlying23 Try.underlying5
  go_enter Try.func9, Try.ntmps9
  go_wp2_with fail
  refine (dNew_spec _ 100).mono ?_
  rintro e w1 hp
  unfold NewPost at hp
  rw [if_neg (by omega)] at hp
  obtain ⟨bd, S1, rfl, hd1, g1, hs1⟩ := hp
  go_wp2_with fail
  have b1 := bytes_const w1 [49, 50, 51, 52, 53] #[.int .u8 49, .int .u8 50, .int .u8 51, .int .u8 52, .int .u8 53] (5, 6) rfl 5 rfl (by unfold maxLen; omega)
  refine (dWrite_spec _ bd _ S1 (hd1.keepG (grew_alloc w1 _)) nameA (by decide) _ _ b1 (fun k hk hkS => by cases hk; exact absurd (hd1.lt _ hkS) (Nat.lt_irrefl _)) (by decide)).mono ?_
  rintro e w2 ⟨S2, rfl, hd2, f2, hs2⟩
  rw [show MD.write ⟨Int.toNat 100, [], none⟩ nameA [49, 50, 51, 52, 53] = _ from kn1] at hd2 ⊢
  have g2 : Grew w w2 := grew_of_frm (g1.alloc _) f2 hs1
  have hs2' : ∀ k ∈ S2, w.heap.size ≤ k := fun k hk => (hs2 k hk).elim (hs1 k) (fun h => by have := g1.size; simp at h; omega)
  clear hs2 f2 b1 hd1 hs1
  go_wp2_with fail
  refine (dSync_spec _ bd _ S2 hd2 nameA (by decide)).mono ?_
  rintro e w3 ⟨S3, rfl, hd3, f3, hs3⟩
  rw [kn2] at hd3 ⊢
  have g3 : Grew w w3 := grew_of_frm g2 f3 hs2'
  have hs3' : ∀ k ∈ S3, w.heap.size ≤ k := fun k hk => (hs3 k hk).elim (hs2' k) (fun h => by have := g2.size; omega)
  clear hs3 f3 hd2 hs2'
  go_wp2_with fail
  have b2 := bytes_const w3 [54, 55, 56] #[.int .u8 54, .int .u8 55, .int .u8 56] (3, 4) rfl 3 rfl (by unfold maxLen; omega)
  refine (dWrite_spec _ bd _ S3 (hd3.keepG (grew_alloc w3 _)) nameA (by decide) _ _ b2 (fun k hk hkS => by cases hk; exact absurd (hd3.lt _ hkS) (Nat.lt_irrefl _)) (by decide)).mono ?_
  rintro e w4 ⟨S4, rfl, hd4, f4, hs4⟩
  rw [kn3] at hd4 ⊢
  have g4 : Grew w w4 := grew_of_frm (g3.alloc _) f4 hs3'
  have hs4' : ∀ k ∈ S4, w.heap.size ≤ k := fun k hk => (hs4 k hk).elim (hs3' k) (fun h => by have := g3.size; simp at h; omega)
  clear hs4 f4 b2 hd3 hs3'
  go_wp2_with fail
  refine (dCrash_spec _ bd _ S4 hd4 1 (by decide) 1).mono ?_
  rintro e w5 ⟨rfl, hd5, f5⟩
  rw [kn4] at hd5
  have g5 : Grew w w5 := grew_of_frm g4 f5 hs4'
  clear f5 hd4
  go_wp2_with fail
  refine (dRead_spec _ bd _ S4 hd5 nameA (by decide)).mono ?_
  rintro e w6 ⟨v, rfl, hv, g6, _⟩
  rw [kn5]
  rw [kn6] at hv
  have g6' : Grew w w6 := Grew.trans g5 g6
  clear hd5
  obtain ⟨va, vc, rfl, _, _, _⟩ := hv.rd.shape
  go_wp2_with fail
  have b3 := bytes_const w6 [49, 50, 51, 52, 53, 55] #[.int .u8 49, .int .u8 50, .int .u8 51, .int .u8 52, .int .u8 53, .int .u8 55] (6, 7) rfl 6 rfl (by unfold maxLen; omega)
  refine (same_spec _ _ _ _ _ (hv.rd.keepG (grew_alloc w6 _)) b3).mono ?_
  rintro e w7 ⟨rfl, g7⟩
  go_wp2_with fail
  go_ret
  exact ⟨by simp, Grew.trans (g6'.alloc _) g7⟩
end Go.Proofs.Ytjcjajpndchfdaa
