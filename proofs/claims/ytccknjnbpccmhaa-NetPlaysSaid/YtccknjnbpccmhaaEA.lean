/- Arguments opened: slices of structs that hold slices of bytes. -/
import Derived.Test.YtccknjnbpccmhaaS
import Derived.ProofKit
import Derived.SizedLaws
import Derived.Deep.Matrix
namespace Go.Proofs.Ytccknjnbpccmhaa
open Go.ChangeShapes Go.WideShapes Go.RowKit

namespace Arg
theorem cellsU8 : Try.prog.cellsOf 5 = 1 := by kernel_rfl
theorem bytesU8 : Try.prog.bytesOf 5 = 1 := by kernel_rfl
theorem laid : laidOutB Try.prog = true := by kernel_rfl

theorem flat_length {α : Type} (f : α → List Value) (n : Nat) (hf : ∀ a, (f a).length = n) (rows : List α) : (rows.flatMap f).length = rows.length * n := by
  induction rows with
  | nil => simp
  | cons r l ih => simp only [List.flatMap_cons, List.length_append, ih, hf, List.length_cons, Nat.add_mul, Nat.one_mul]; omega
theorem flat_at {α : Type} (f : α → List Value) (n : Nat) (hf : ∀ a, (f a).length = n) (rows : List α) (i c : Nat) (hi : i < rows.length) (hc : c < n) : (rows.flatMap f)[i * n + c]? = (f rows[i])[c]? := by
  have h : rows = rows.take i ++ rows[i] :: rows.drop (i + 1) := by rw [List.getElem_cons_drop, List.take_append_drop]
  have hl : ((rows.take i).flatMap f).length = i * n := by
    rw [flat_length f n hf]; congr 1; simp; omega
  conv => lhs; rw [h]
  rw [List.flatMap_append, List.getElem?_append_right (by omega), hl, List.flatMap_cons, List.getElem?_append_left (by rw [hf]; omega)]
  congr 1; omega

theorem rd_of_cells {w : World} (e : TypeId) (size : Nat) {a : Addr} {n cap : Nat} {xs : List Value} (hl : xs.length = n * size) (hn : n ≤ cap) (hc : cap ≤ maxLen) (hs : 0 < size) (h : ∀ j (hj : j < n * size), w.cell? (a.add j) = some (xs[j]'(hl ▸ hj))) :
    Rd w e size (.slice (some a) n cap) n xs := by
  refine ⟨hl, ?_⟩
  by_cases h0 : n = 0
  · subst h0; exact .inr (.inl ⟨rfl, a, cap, rfl, hc⟩)
  · have hp : 0 < n * size := Nat.mul_pos (by omega) hs
    have hz := h 0 hp
    obtain ⟨b, off, spot⟩ := a
    have hsp : spot = none := by simpa [Addr.add] using World.cell?_spot hz
    subst hsp
    have hcell : ∀ j (hj : j < n * size), w.cell? ⟨b, off + j, none⟩ = some (xs[j]'(hl ▸ hj)) := fun j hj => by rw [← Addr.add_lit]; exact h j hj
    have hz' := hcell 0 hp
    unfold World.cell? at hz'
    simp only at hz'
    split at hz'
    · rename_i c t fr hb
      refine .inr (.inr ⟨b, off, cap, c, t, fr, rfl, hb, hn, hc, ?_⟩)
      apply List.ext_getElem?
      intro j
      rw [List.getElem?_take]
      split
      · rename_i hj
        have := hcell j hj
        rw [cell_of hb] at this
        rw [List.getElem?_drop, List.getElem?_eq_getElem (l := xs) (by omega)]
        simpa using this
      · rw [List.getElem?_eq_none (by omega)]
    · cases hz'

def byteOf (z : Int) : UInt8 := UInt8.ofNat z.toNat
theorem bc_byteOf {z : Int} (h : (Lit.int .u8 z).wf = true) : bc (byteOf z) = .int .u8 z := by
  simp [Lit.wf, IntKind.min, IntKind.max, IntKind.signed, IntKind.bits] at h
  unfold bc byteOf
  have h2 : z.toNat < 256 := by omega
  have : (UInt8.ofNat z.toNat).toNat = z.toNat := by simp [UInt8.toNat_ofNat', Nat.mod_eq_of_lt h2]
  rw [this, Int.toNat_of_nonneg h.1]

section
variable {H : Type} {enc : TypeId × Value → H}

theorem weights_mem_all {P : Program} {e : TypeId} : ∀ {ds : List (DataW H)} {d : DataW H}, d ∈ ds → ∀ n ∈ d.weights P e, n ∈ DataW.weightsAll P e ds
  | x :: r, d, hd, n, hn => by
    simp only [DataW.weightsAll, List.mem_append]
    rcases List.mem_cons.1 hd with rfl | h
    · exact .inl hn
    · exact .inr (weights_mem_all h n hn)
theorem trod_bool_mk {P : Program} {w : World} {base : Nat} {sp : Nat → Bool} {held : Bool} {t : TypeId} (ht : P.underlying t = some .bool) (b : Bool) : DataW.Trod enc P w base sp held t (.bool b) (.lit (.bool b)) [] :=
  ⟨1, by simp [DataW.trod, Value.cells, ht]⟩

/-- a slice of bytes, wherever it lies -/
theorem bytes_cells {w : World} {fuel : Nat} {cs : List Value} {x : DataW H × List MemPlace} (h : DataW.trod enc Try.prog w 0 (fun _ => true) true fuel 23 cs = some x) :
    ∃ v l, cs = [v] ∧ Bytes w v l ∧ ((∀ n ∈ x.1.weights Try.prog 23, n ≤ reachBytes) → l.length ≤ 140737488351232) := by
  rcases open_ints Try.underlying23 Try.underlying5 cellsU8 h with ⟨rfl, rfl⟩ | ⟨a, len, cap, zs, rfl, _, hl, hm, hz, rfl, hcell, hws⟩
  · exact ⟨_, [], rfl, Rd.nil w _ 1, fun _ => by simp⟩
  · simp only [if_true] at hz
    refine ⟨_, (zs.take len).map byteOf, rfl, ?_, fun hw => ?_⟩
    · have hll : ((zs.take len).map byteOf).length = len := by simp; omega
      unfold Bytes
      rw [hll]
      refine rd_of_cells _ 1 (by rw [List.length_map, hll]; omega) hl hm (by omega) (fun j hj => ?_)
      have hj2 : j < zs.length := by omega
      rw [hcell j (by omega)]
      simp only [List.getElem_map, List.getElem_take]
      rw [bc_byteOf (hws _ (List.getElem_mem hj2)), List.getD_eq_getElem?_getD, List.getElem?_eq_getElem hj2]
      rfl
    · simp only [DataW.weights, Try.underlying23, List.mem_cons, List.mem_append, forall_eq_or_imp] at hw
      have := hw.1
      rw [bytesU8, show reachBytes = 140737488351232 from rfl] at this
      simp only [lits, List.length_map, List.length_take, List.length_drop] at this ⊢
      omega
end
end Arg
end Go.Proofs.Ytccknjnbpccmhaa
