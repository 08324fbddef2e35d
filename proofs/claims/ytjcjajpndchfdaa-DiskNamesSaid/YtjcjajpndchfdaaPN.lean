/- Plain laws for DiskNames: the disk behind each step. -/
import Derived.Test.YtjcjajpndchfdaaPR
import Derived.Test.YtjcjajpndchfdaaNM
namespace Go.Proofs.Ytjcjajpndchfdaa
open Go.RowKit

abbrev nameX : ByteArray := ⟨#[120]⟩
abbrev nameY : ByteArray := ⟨#[121]⟩
def nmD (l : List (ByteArray × MF)) : MD := ⟨1048576, l, none⟩
theorem nameX_ok : MD.badName nameX = false := by decide
theorem nameY_ok : MD.badName nameY = false := by decide
theorem nameZ_ok : MD.badName nameZ = false := by decide
theorem nameXY : ¬ nameX = nameY := by decide
theorem nameYX : ¬ nameY = nameX := by decide
theorem nameYZ : ¬ nameY = nameZ := by decide

theorem gate_ok {D : MD} {names : List ByteArray} {r : MD} (hf : D.fuse = none) (hn : names.any MD.badName = false) (hr : r.fuse = none) : MD.gate D names (0, r) = (0, r) := by
  unfold MD.gate
  rw [if_neg (by simp [hf]), if_neg (by simp [hn]), if_pos rfl]
  cases r; simp at hr; subst hr; rfl
theorem gate_err {D : MD} {names : List ByteArray} {c : Int} {r : MD} (hf : D.fuse = none) (hn : names.any MD.badName = false) (hc : c ≠ 0) : MD.gate D names (c, r) = (c, D) := by
  unfold MD.gate
  rw [if_neg (by simp [hf]), if_neg (by simp [hn]), if_neg hc]

theorem nm1 (a : List UInt8) (h : a.length ≤ 8000) : MD.write (nmD []) nameX a = (0, nmD [(nameX, ⟨a, 0⟩)]) := by
  unfold MD.write
  have : MD.writeIn (nmD []) nameX a = (0, nmD [(nameX, ⟨a, 0⟩)]) := by
    unfold MD.writeIn nmD
    rw [if_neg (by simp [MD.used]; omega)]
    simp [MD.find, MD.put]
  rw [this]
  exact gate_ok rfl (by simp [nameX_ok]) rfl
theorem nm2 (a : List UInt8) : MD.sync (nmD [(nameX, ⟨a, 0⟩)]) nameX = (0, nmD [(nameX, ⟨a, a.length⟩)]) := by
  unfold MD.sync
  have : MD.syncIn (nmD [(nameX, ⟨a, 0⟩)]) nameX = (0, nmD [(nameX, ⟨a, a.length⟩)]) := by
    simp [MD.syncIn, nmD, MD.find, MD.put]
  rw [this]
  exact gate_ok rfl (by simp [nameX_ok]) rfl
theorem nm3 (a b : List UInt8) (n : Nat) (h : a.length + b.length ≤ 8000) : MD.write (nmD [(nameX, ⟨a, n⟩)]) nameX b = (0, nmD [(nameX, ⟨a ++ b, n⟩)]) := by
  unfold MD.write
  have : MD.writeIn (nmD [(nameX, ⟨a, n⟩)]) nameX b = (0, nmD [(nameX, ⟨a ++ b, n⟩)]) := by
    unfold MD.writeIn nmD
    rw [if_neg (by simp [MD.used, MD.find]; omega)]
    simp [MD.find, MD.put]
  rw [this]
  exact gate_ok rfl (by simp [nameX_ok]) rfl
theorem nm4 (d c : List UInt8) (n : Nat) (h : d.length + c.length ≤ 8000) : MD.write (nmD [(nameX, ⟨d, n⟩)]) nameY c = (0, nmD [(nameX, ⟨d, n⟩), (nameY, ⟨c, 0⟩)]) := by
  unfold MD.write
  have : MD.writeIn (nmD [(nameX, ⟨d, n⟩)]) nameY c = (0, nmD [(nameX, ⟨d, n⟩), (nameY, ⟨c, 0⟩)]) := by
    unfold MD.writeIn nmD
    rw [if_neg (by simp [MD.used, MD.find]; omega)]
    simp [MD.find, MD.put]
  rw [this]
  exact gate_ok rfl (by simp [nameY_ok]) rfl
theorem nm5 (d : List UInt8) (n : Nat) (g : MF) : MD.sync (nmD [(nameX, ⟨d, n⟩), (nameY, g)]) nameX = (0, nmD [(nameX, ⟨d, d.length⟩), (nameY, g)]) := by
  unfold MD.sync
  have : MD.syncIn (nmD [(nameX, ⟨d, n⟩), (nameY, g)]) nameX = (0, nmD [(nameX, ⟨d, d.length⟩), (nameY, g)]) := by
    simp [MD.syncIn, nmD, MD.find, MD.put]
  rw [this]
  exact gate_ok rfl (by simp [nameX_ok]) rfl
theorem nm6 (f g : MF) : MD.rename (nmD [(nameX, f), (nameY, g)]) nameX nameY = (0, nmD [(nameY, f)]) := by
  unfold MD.rename
  have : MD.renameIn (nmD [(nameX, f), (nameY, g)]) nameX nameY = (0, nmD [(nameY, f)]) := by
    simp [MD.renameIn, nmD, MD.find, MD.put, MD.del]
  rw [this]
  exact gate_ok rfl (by simp [nameX_ok, nameY_ok]) rfl
theorem nm7 (f : MF) : MD.rename (nmD [(nameY, f)]) nameX nameZ = (7, nmD [(nameY, f)]) := by
  unfold MD.rename
  have : MD.renameIn (nmD [(nameY, f)]) nameX nameZ = (7, nmD [(nameY, f)]) := by
    simp [MD.renameIn, nmD, MD.find]
  rw [this]
  exact gate_err rfl (by simp [nameX_ok, nameZ_ok]) (by decide)
theorem nm8 (f : MF) : MD.names (nmD [(nameY, f)]) = [nameY] := by
  simp [MD.names, nmD]
theorem nm9 (d : List UInt8) (n : Nat) : MD.crash (nmD [(nameY, ⟨d, n⟩)]) 0 0 = nmD [(nameY, ⟨d.take n, n⟩)] := by
  unfold MD.crash nmD
  simp only [List.map_cons, List.map_nil, MD.crashF]
  have e : (max (0 : Int) 0).toNat = 0 := by decide
  rw [e]
  simp
  apply List.ext_getElem <;> simp
theorem nm10 (f : MF) : readData (nmD [(nameY, f)]) nameY = f.data := by
  simp [readData, nmD, MD.find]
end Go.Proofs.Ytjcjajpndchfdaa
