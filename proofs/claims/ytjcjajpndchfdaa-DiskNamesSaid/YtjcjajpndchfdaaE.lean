/- Arguments opened: rows of bytes that came in, a row of bytes, a text. -/
import Derived.Test.YtjcjajpndchfdaaP
import Derived.ProofKit
import Derived.SizedLaws
import Derived.Deep.Matrix
namespace Go.Proofs.Ytjcjajpndchfdaa
open Go.ChangeShapes Go.WideShapes Go.RowKit

theorem Try.cellsU8 : Try.prog.cellsOf 5 = 1 := by kernel_rfl
theorem Try.cellsBytes : Try.prog.cellsOf 23 = 1 := by kernel_rfl
theorem Try.bytesU8 : Try.prog.bytesOf 5 = 1 := by kernel_rfl
theorem Try.laid : laidOutB Try.prog = true := by kernel_rfl
theorem Try.owned : ownKnob Try.prog.godebug = none := by kernel_rfl

theorem Rd.of_cells {w : World} (e : TypeId) {a : Addr} {n cap : Nat} {xs : List Value} (hl : xs.length = n) (hn : n ≤ cap) (hc : cap ≤ maxLen) (h : ∀ j (hj : j < n), w.cell? (a.add j) = some (xs[j]'(hl ▸ hj))) :
    Rd w e 1 (.slice (some a) n cap) n xs := by
  refine ⟨by omega, ?_⟩
  by_cases h0 : n = 0
  · subst h0; exact .inr (.inl ⟨rfl, a, cap, rfl, hc⟩)
  · have hz := h 0 (by omega)
    obtain ⟨b, off, spot⟩ := a
    have hs : spot = none := by simpa [Addr.add] using World.cell?_spot hz
    subst hs
    have hcell : ∀ j (hj : j < n), w.cell? ⟨b, off + j, none⟩ = some (xs[j]'(hl ▸ hj)) := fun j hj => by rw [← Addr.add_lit]; exact h j hj
    have hz' := hcell 0 (by omega)
    unfold World.cell? at hz'
    simp only at hz'
    split at hz'
    · rename_i c t fr hb
      refine .inr (.inr ⟨b, off, cap, c, t, fr, rfl, hb, hn, hc, ?_⟩)
      apply List.ext_getElem?
      intro j
      rw [Nat.mul_one, List.getElem?_take]
      split
      · rename_i hj
        have := hcell j hj
        rw [cell_of hb] at this
        rw [List.getElem?_drop, List.getElem?_eq_getElem (l := xs) (by omega)]
        simpa using this
      · rw [List.getElem?_eq_none (by omega)]
    · cases hz'

section
variable {H : Type} {enc : TypeId × Value → H}

theorem weights_mem_all {P : Program} {e : TypeId} : ∀ {ds : List (DataW H)} {d : DataW H}, d ∈ ds → ∀ n ∈ d.weights P e, n ∈ DataW.weightsAll P e ds
  | x :: r, d, hd, n, hn => by
    simp only [DataW.weightsAll, List.mem_append]
    rcases List.mem_cons.1 hd with rfl | h
    · exact .inl hn
    · exact .inr (weights_mem_all h n hn)

theorem trod_bool_mk {P : Program} {w : World} {base : Nat} {sp : Nat → Bool} {held : Bool} {t : TypeId} (ht : P.underlying t = some .bool) (b : Bool) : DataW.Trod enc P w base sp held t (.bool b) (.lit (.bool b)) [] :=
  ⟨1, by simp [DataW.trod, Value.cells, ht]⟩

/-- the byte that an integer is -/
def byteOf (z : Int) : UInt8 := UInt8.ofNat z.toNat
theorem bc_byteOf {z : Int} (h : (Lit.int .u8 z).wf = true) : bc (byteOf z) = .int .u8 z := by
  simp [Lit.wf, IntKind.min, IntKind.max, IntKind.signed, IntKind.bits] at h
  unfold bc byteOf
  have h2 : z.toNat < 256 := by omega
  have : (UInt8.ofNat z.toNat).toNat = z.toNat := by simp [UInt8.toNat_ofNat', Nat.mod_eq_of_lt h2]
  rw [this, Int.toNat_of_nonneg h.1]

/-- the cells of a row of bytes -/
theorem bytes_of_ints {w : World} {A : Option Addr} {n cap : Nat} {zs : List Int} (hl : n ≤ cap) (hc : cap ≤ maxLen) (hz : zs.length = cap) (hw : ∀ z ∈ zs, (Lit.int .u8 z).wf = true) (hn : A = none → cap = 0)
    (hcell : ∀ a', A = some a' → ∀ c, c < cap → w.cell? (a'.add c) = some (.int .u8 (zs.getD c 0))) : Bytes w (.slice A n cap) ((zs.take n).map byteOf) := by
  have hll : ((zs.take n).map byteOf).length = n := by simp; omega
  unfold Bytes
  rw [hll]
  cases A with
  | none =>
    have := hn rfl
    have hn0 : n = 0 := by omega
    subst this; subst hn0
    simpa using Rd.nil w 5 1
  | some a =>
    refine Rd.of_cells _ (by rw [List.length_map, hll]) hl hc (fun j hj => ?_)
    have hj2 : j < zs.length := by omega
    rw [hcell a rfl j (by omega)]
    simp only [List.getElem_map, List.getElem_take]
    rw [bc_byteOf (hw _ (List.getElem_mem hj2)), List.getD_eq_getElem?_getD, List.getElem?_eq_getElem hj2]
    rfl

set_option maxRecDepth 100000 in
theorem open_bytes_arg {W : World} {b0 : Nat} {v : Value} {d : DataW H} {p : List MemPlace} (hval : Value.okWide Try.prog W .any b0 23 v) (h : DataW.Trod enc Try.prog W 0 (fun _ => true) true 23 v d p) :
    ∃ l, Bytes W v l ∧ ∀ (ts : List TypeId) (ds : List (DataW H)) (j : Nat), ts[j]? = some 23 → ds[j]? = some d → (DataW.weightsEach Try.prog ts ds).all (· ≤ reachBytes) = true → l.length ≤ 140737488351232 := by
  obtain ⟨a0, len0, cap0, rfl⟩ := okWide_slice Try.underlying23 hval
  obtain ⟨fuel, hf⟩ := h
  rcases open_ints Try.underlying23 Try.underlying5 Try.cellsU8 hf with ⟨hcs, hx⟩ | ⟨a, len, cap, zs, hcs, _, hl, hm, hz, hx, hcell, hws⟩
  · simp [Value.cells] at hcs
    obtain ⟨rfl, rfl, rfl⟩ := hcs
    exact ⟨[], Rd.nil W _ 1, fun _ _ _ _ _ _ => by simp⟩
  · simp [Value.cells] at hcs
    obtain ⟨rfl, rfl, rfl⟩ := hcs
    simp only [if_true] at hz
    simp only [Prod.mk.injEq] at hx
    obtain ⟨rfl, rfl⟩ := hx
    refine ⟨(zs.take len0).map byteOf, bytes_of_ints hl hm hz hws (fun h => by cases h) (fun a' h c hc => by cases h; exact hcell c (by omega)), fun ts ds j ht hd hsz => ?_⟩
    have := sized_slice hsz ht hd Try.underlying23
    rw [Try.bytesU8] at this
    simp only [lits, List.length_map, List.length_take, List.length_drop, reachBytes] at this ⊢
    omega

set_option maxRecDepth 100000 in
theorem open_rows_arg {W : World} {b0 : Nat} {v : Value} {d : DataW H} {p : List MemPlace} (hval : Value.okWide Try.prog W .any b0 22 v) (h : DataW.Trod enc Try.prog W 0 (fun _ => true) true 22 v d p) :
    ∃ vs L, RowsAt W v vs L ∧ ∀ (ts : List TypeId) (ds : List (DataW H)) (j : Nat), ts[j]? = some 22 → ds[j]? = some d → (DataW.weightsEach Try.prog ts ds).all (· ≤ reachBytes) = true → ∀ l ∈ L, l.length ≤ 140737488351232 := by
  obtain ⟨a0, len0, cap0, rfl⟩ := okWide_slice Try.underlying22 hval
  obtain ⟨fuel, hf⟩ := h
  rcases Go.Deep.open_int_rows Try.underlying22 Try.underlying23 Try.underlying5 Try.cellsBytes Try.cellsU8 hf with ⟨hcs, hx⟩ | ⟨a, len, cap, A, Ln, C, Z, hcs, _, hl, hm, hx, hr⟩
  · simp [Value.cells] at hcs
    obtain ⟨rfl, rfl, rfl⟩ := hcs
    exact ⟨[], [], ⟨Rd.nil W _ 1, fun i x l hx => by simp at hx⟩, fun _ _ _ _ _ _ l hl => by cases hl⟩
  · simp [Value.cells] at hcs
    obtain ⟨rfl, rfl, rfl⟩ := hcs
    simp only [Prod.mk.injEq] at hx
    obtain ⟨rfl, rfl⟩ := hx
    have hrow : ∀ r, r < len0 → Bytes W (.slice (A r) (Ln r) (C r)) (((Z r).take (Ln r)).map byteOf) := fun r hr' => by
      obtain ⟨_, r1, r2, r3, r4, r5, r6⟩ := hr r (by omega)
      exact bytes_of_ints r1 r2 r3 r4 r5 (fun a' h c hc => (r6 a' h).2 c hc)
    refine ⟨(List.range len0).map fun r => .slice (A r) (Ln r) (C r), (List.range len0).map fun r => ((Z r).take (Ln r)).map byteOf, ⟨?_, ?_⟩, ?_⟩
    · rw [List.length_map, List.length_range]
      exact Rd.of_cells _ (by simp) hl hm (fun j hj => by simpa using (hr j (by omega)).1)
    · intro i x l hx hl'
      simp only [List.getElem?_map, Option.map_eq_some_iff] at hx hl'
      obtain ⟨r, hr1, rfl⟩ := hx
      obtain ⟨r', hr2, rfl⟩ := hl'
      obtain rfl : r = r' := Option.some.inj (hr1.symm.trans hr2)
      have : r < len0 := List.mem_range.1 (List.mem_of_getElem? hr1)
      exact hrow r this
    · intro ts ds j ht hd hsz l hl'
      obtain ⟨r, hr1, rfl⟩ := List.mem_map.1 hl'
      have hr2 : r < len0 := List.mem_range.1 hr1
      obtain ⟨_, r1, r2, r3, r4, r5, r6⟩ := hr r (by omega)
      cases hA : A r with
      | none =>
        have := r5 hA
        simp only [List.length_map, List.length_take]
        omega
      | some a' =>
        have hin : (Z r).length * 1 ∈ DataW.weightsEach Try.prog ts ds := by
          refine DataW.weights_mem_each ht hd _ ?_
          simp only [DataW.weights, Try.underlying22, List.mem_cons, List.mem_append]
          refine .inr (.inl ?_)
          refine weights_mem_all (List.mem_map.2 ⟨r, hr1, rfl⟩) _ ?_
          simp only [Go.Deep.intRow, hA, DataW.weights, Try.underlying23, List.mem_cons, Try.bytesU8, lits, List.length_map, List.length_take, List.length_drop]
          left
          omega
        have := List.all_eq_true.1 hsz _ hin
        have this := of_decide_eq_true this
        rw [show reachBytes = 140737488351232 from rfl] at this
        simp only [List.length_map, List.length_take]
        omega

end
end Go.Proofs.Ytjcjajpndchfdaa
