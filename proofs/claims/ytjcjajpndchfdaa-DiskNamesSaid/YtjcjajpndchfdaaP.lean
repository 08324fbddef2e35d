/- Plain laws for DiskKeeps, DiskFuses, DiskRoom: rows that are written one by one. And: rows of bytes that came in. -/
import Derived.Test.YtjcjajpndchfdaaO
namespace Go.Proofs.Ytjcjajpndchfdaa
open Go.RowKit

/-- rows of bytes, in memory -/
structure RowsAt (w : World) (v : Value) (vs : List Value) (L : List (List UInt8)) : Prop where
  rd : Rd w 23 1 v L.length vs
  row : ∀ (i : Nat) (x : Value) (l : List UInt8), vs[i]? = some x → L[i]? = some l → Bytes w x l

theorem RowsAt.keepG {w w' : World} {v : Value} {vs : List Value} {L : List (List UInt8)} (h : RowsAt w v vs L) (g : Grew w w') : RowsAt w' v vs L :=
  ⟨h.rd.keepG g, fun i x l hx hl => (h.row i x l hx hl).keepG g⟩
theorem RowsAt.at_ {w : World} {v : Value} {vs : List Value} {L : List (List UInt8)} (h : RowsAt w v vs L) {g off cap : Nat} (hv : v = .slice (some ⟨g, off, none⟩) L.length cap) (j : Nat) (hj : j < L.length) :
    ∃ a c, w.cell? ⟨g, off + j, none⟩ = some (.slice a L[j].length c) ∧ Bytes w (.slice a L[j].length c) L[j] := by
  have hl : vs.length = L.length := by have := h.rd.1; omega
  have hx : vs[j]? = some (vs[j]'(by omega)) := List.getElem?_eq_getElem (by omega)
  have hb := h.row j _ _ hx (List.getElem?_eq_getElem hj)
  obtain ⟨a, c, he, _⟩ := hb.shape
  exact ⟨a, c, by rw [h.rd.cell hv j hx, he], he ▸ hb⟩

def tot (L : List (List UInt8)) : Nat := (L.map fun r => 1 + r.length).sum
theorem tot_succ (L : List (List UInt8)) (j : Nat) (hj : j < L.length) : tot (L.take (j + 1)) = tot (L.take j) + (1 + L[j].length) := by
  unfold tot
  rw [List.take_succ_eq_append_getElem hj, List.map_append, List.sum_append]
  simp
theorem tot_le (L : List (List UInt8)) (j : Nat) : tot (L.take j) ≤ tot L := by
  have h : tot L = tot (L.take j) + tot (L.drop j) := by
    unfold tot; rw [← List.sum_append, ← List.map_append, List.take_append_drop]
  omega
theorem len_le_tot (L : List (List UInt8)) : L.length ≤ tot L := by
  induction L with
  | nil => simp [tot]
  | cons a l ih => unfold tot at *; simp only [List.map_cons, List.sum_cons, List.length_cons]; omega
theorem flat_le_tot (L : List (List UInt8)) : L.flatten.length ≤ tot L := by
  induction L with
  | nil => simp [tot]
  | cons a l ih => unfold tot at *; simp only [List.map_cons, List.sum_cons, List.flatten_cons, List.length_append]; omega
theorem flat_take_le (L : List (List UInt8)) (j : Nat) : (L.take j).flatten.length ≤ tot L := Nat.le_trans (flat_le_tot _) (tot_le L j)
theorem flat_succ (L : List (List UInt8)) (j : Nat) (hj : j < L.length) : (L.take (j + 1)).flatten = (L.take j).flatten ++ L[j] := by
  rw [List.take_succ_eq_append_getElem hj, List.flatten_append]
  simp only [List.flatten_cons, List.flatten_nil, List.append_nil]
theorem flat_mono (L : List (List UInt8)) {i j : Nat} (h : i ≤ j) : (L.take i).flatten.length ≤ (L.take j).flatten.length := by
  obtain ⟨d, rfl⟩ := Nat.exists_eq_add_of_le h
  rw [List.take_add, List.flatten_append, List.length_append]; omega
theorem flat_prefix (L : List (List UInt8)) {i j : Nat} (h : i ≤ j) : (L.take i).flatten = (L.take j).flatten.take (L.take i).flatten.length := by
  obtain ⟨d, rfl⟩ := Nat.exists_eq_add_of_le h
  rw [List.take_add, List.flatten_append, List.take_left]

abbrev nameF : ByteArray := ⟨#[102]⟩
/-- the disk behind j rows, the first s of which were synced -/
def stK (L : List (List UInt8)) (s j : Nat) : MD :=
  ⟨1048576, if j = 0 then [] else [(nameF, ⟨(L.take j).flatten, (L.take (min j s)).flatten.length⟩)], none⟩
/-- .. with row j written, not yet synced -/
def stW (L : List (List UInt8)) (s j : Nat) : MD := ⟨1048576, [(nameF, ⟨(L.take (j + 1)).flatten, (L.take (min j s)).flatten.length⟩)], none⟩

theorem nameF_ok : MD.badName nameF = false := by decide
theorem stK_write (L : List (List UInt8)) (s j : Nat) (hj : j < L.length) (ht : tot L ≤ 8000) : MD.write (stK L s j) nameF L[j] = (0, stW L s j) := by
  have hs := flat_succ L j hj
  have h2 := flat_take_le L (j + 1)
  rw [hs, List.length_append] at h2
  unfold MD.write MD.gate
  rw [if_neg (by simp [stK]), if_neg (by simp [nameF_ok])]
  by_cases h0 : j = 0
  · subst h0
    have hw : MD.writeIn (stK L s 0) nameF L[0] = (0, stW L s 0) := by
      unfold MD.writeIn stK stW
      rw [if_neg (by simp [MD.find, MD.used] at h2 ⊢; omega), hs]
      simp [MD.find, MD.put]
    rw [hw]; simp [stW]
  · have hw : MD.writeIn (stK L s j) nameF L[j] = (0, stW L s j) := by
      unfold MD.writeIn stK stW
      rw [if_neg (by simp [MD.find, MD.used, h0] at h2 ⊢; omega), hs]
      simp [MD.find, MD.put, h0]
    rw [hw]; simp [stW]
theorem stW_sync (L : List (List UInt8)) (s j : Nat) (hj : j < s) : MD.sync (stW L s j) nameF = (0, stK L s (j + 1)) := by
  unfold MD.sync MD.gate
  rw [if_neg (by simp [stW]), if_neg (by simp [nameF_ok])]
  have hw : MD.syncIn (stW L s j) nameF = (0, stK L s (j + 1)) := by
    unfold MD.syncIn stW stK
    have : min (j + 1) s = j + 1 := by omega
    simp [MD.find, MD.put, this]
  rw [hw]; simp [stK]
theorem stW_next (L : List (List UInt8)) (s j : Nat) (hj : ¬ j < s) : stW L s j = stK L s (j + 1) := by
  unfold stW stK
  have h1 : min (j + 1) s = s := by omega
  have h2 : min j s = s := by omega
  simp [h1, h2]

/-- behind a crash -/
theorem stK_crash (L : List (List UInt8)) (s n : Nat) (hn : 0 < n) (keep : Int) (tear : UInt8) : MD.crash (stK L s n) keep tear = ⟨1048576, [(nameF, MD.crashF keep tear ⟨(L.take n).flatten, (L.take (min n s)).flatten.length⟩)], none⟩ := by
  unfold MD.crash stK
  rw [if_neg (by omega)]; rfl
theorem stK_crash0 (L : List (List UInt8)) (s : Nat) (keep : Int) (tear : UInt8) : MD.crash (stK L s 0) keep tear = ⟨1048576, [], none⟩ := by
  unfold MD.crash stK; rfl

/-- what a crash leaves of a file -/
theorem crashF_data (keep : Int) (tear : UInt8) (f : MF) (hT : f.lasts ≤ f.data.length) :
    ∃ st, (MD.crashF keep tear f).data.length = st ∧ f.lasts ≤ st ∧ st ≤ f.data.length ∧
      ∀ i (h1 : i < (MD.crashF keep tear f).data.length) (h2 : i < f.data.length), (MD.crashF keep tear f).data[i] = if f.lasts ≤ i ∧ (st - 1) / 32 * 32 ≤ i then f.data[i] ^^^ tear else f.data[i] := by
  have hlt := Nat.mod_lt (max 0 keep).toNat (show 0 < f.data.length - f.lasts + 1 by omega)
  refine ⟨f.lasts + (max 0 keep).toNat % (f.data.length - f.lasts + 1), ?_, by omega, by omega, ?_⟩
  · unfold MD.crashF
    simp only [List.length_mapIdx, List.length_take]
    omega
  · intro i h1 h2
    have hd : (MD.crashF keep tear f).data[i]? = some (if f.lasts ≤ i ∧ (f.lasts + (max 0 keep).toNat % (f.data.length - f.lasts + 1) - 1) / 32 * 32 ≤ i then f.data[i] ^^^ tear else f.data[i]) := by
      have hst : i < f.lasts + (max 0 keep).toNat % (f.data.length - f.lasts + 1) := by
        have h1' := h1
        unfold MD.crashF at h1'
        simp only [List.length_mapIdx, List.length_take] at h1'
        omega
      unfold MD.crashF
      simp only [List.getElem?_mapIdx, List.getElem?_take]
      rw [if_pos hst, List.getElem?_eq_getElem h2]
      simp only [Option.map_some, Option.some.injEq]
      by_cases hc : f.lasts ≤ i ∧ (f.lasts + (max 0 keep).toNat % (f.data.length - f.lasts + 1) - 1) / 32 * 32 ≤ i
      · rw [if_pos (by omega), if_pos hc]
      · rw [if_neg (by omega), if_neg hc]
    exact Option.some.inj ((List.getElem?_eq_getElem h1).symm.trans hd)

theorem read_one (room : Nat) (f : MF) (fu : Option Nat) : readCode ⟨room, [(nameF, f)], fu⟩ nameF = 0 ∧ readData ⟨room, [(nameF, f)], fu⟩ nameF = f.data := by
  simp [readCode, readData, MD.find]
theorem read_none (room : Nat) (fu : Option Nat) (s : ByteArray) : readCode ⟨room, [], fu⟩ s = 7 := by simp [readCode, MD.find]

end Go.Proofs.Ytjcjajpndchfdaa
