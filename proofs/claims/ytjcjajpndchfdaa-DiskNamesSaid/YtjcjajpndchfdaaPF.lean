/- Plain laws for DiskFuses: a fuse that burns at the n-th write. -/
import Derived.Test.YtjcjajpndchfdaaP
namespace Go.Proofs.Ytjcjajpndchfdaa
open Go.RowKit

/-- the disk behind j rows, n of which its fuse lets pass -/
def fuK (L : List (List UInt8)) (n j : Nat) : MD :=
  ⟨1048576, if min j n = 0 then [] else [(nameF, ⟨(L.take (min j n)).flatten, 0⟩)], some (n - min j n)⟩
theorem fuK_start (L : List (List UInt8)) (n : Int) (hn : ¬ n < 0) : MD.setFuse ⟨1048576, [], none⟩ n = fuK L n.toNat 0 := by
  unfold MD.setFuse fuK
  rw [if_neg hn]; simp
theorem fuK_pass (L : List (List UInt8)) (n j : Nat) (hn : j < n) (hj : j < L.length) (ht : tot L ≤ 8000) : MD.write (fuK L n j) nameF L[j] = (0, fuK L n (j + 1)) := by
  have hs := flat_succ L j hj
  have h2 := flat_take_le L (j + 1)
  rw [hs, List.length_append] at h2
  have m1 : min j n = j := by omega
  have m2 : min (j + 1) n = j + 1 := by omega
  unfold MD.write MD.gate
  rw [if_neg (by simp [fuK, m1]; omega), if_neg (by simp [nameF_ok])]
  have hw : MD.writeIn (fuK L n j) nameF L[j] = (0, ⟨1048576, [(nameF, ⟨(L.take (j + 1)).flatten, 0⟩)], some (n - j)⟩) := by
    unfold MD.writeIn fuK
    rw [m1]
    by_cases h0 : j = 0
    · subst h0
      rw [if_neg (by simp [MD.find, MD.used] at h2 ⊢; omega), hs]
      simp [MD.find, MD.put]
    · rw [if_neg (by simp [MD.find, MD.used, h0] at h2 ⊢; omega), hs]
      simp [MD.find, MD.put, h0]
  rw [hw]
  simp only [if_true, Option.map_some]
  unfold fuK
  rw [m2]
  simp; omega
theorem fuK_dead (L : List (List UInt8)) (n j : Nat) (hn : ¬ j < n) (x : List UInt8) : MD.write (fuK L n j) nameF x = (9, fuK L n (j + 1)) := by
  have m1 : min j n = n := by omega
  have m2 : min (j + 1) n = n := by omega
  unfold MD.write MD.gate
  rw [if_pos (by simp [fuK, m1])]
  unfold fuK
  rw [m1, m2]
abbrev nameNone : ByteArray := ⟨#[110, 111, 110, 101]⟩
abbrev nameZ : ByteArray := ⟨#[122]⟩
theorem fuK_remove (L : List (List UInt8)) (n j : Nat) : ∃ e : Int, MD.remove (fuK L n j) nameNone = (e, fuK L n j) ∧ (e == 7) = decide (j < n) := by
  unfold MD.remove MD.gate
  by_cases h : j < n
  · have m1 : min j n = j := by omega
    rw [if_neg (by simp [fuK, m1]; omega), if_neg (by decide)]
    have : MD.removeIn (fuK L n j) nameNone = (7, fuK L n j) := by
      unfold MD.removeIn fuK
      by_cases h0 : min j n = 0
      · simp [h0, MD.find]
      · have : ¬ nameF = nameNone := by decide
        simp [h0, MD.find, this]
    rw [this]
    exact ⟨7, by simp, by simp [h]⟩
  · have m1 : min j n = n := by omega
    rw [if_pos (by simp [fuK, m1])]
    exact ⟨9, rfl, by simp [h]⟩
theorem fuK_last (L : List (List UInt8)) (n j : Nat) (ht : tot L ≤ 8000) : (MD.write (MD.crash (fuK L n j) 0 0) nameZ []).1 = 0 := by
  have h2 := flat_take_le L (min j n)
  have hz : MD.badName nameZ = false := by decide
  unfold MD.write MD.gate
  rw [if_neg (by simp [MD.crash]), if_neg (by simp [hz])]
  have hw : (MD.writeIn (MD.crash (fuK L n j) 0 0) nameZ []).1 = 0 := by
    unfold MD.writeIn MD.crash fuK
    by_cases h0 : min j n = 0
    · rw [if_neg (by simp [h0, MD.used])]
    · rw [if_neg (by
        simp only [if_neg h0, List.map_cons, List.map_nil, MD.used, List.sum_cons, List.sum_nil, List.length_cons, List.length_nil, MD.crashF, List.length_mapIdx, List.length_take]
        omega)]
  rw [if_pos hw]
end Go.Proofs.Ytjcjajpndchfdaa
