/- Both nets side by side; the sum of a script's bytes. -/
import Derived.Test.YtccknjnbpccmhaaN1
namespace Go.Proofs.Ytccknjnbpccmhaa
open Go.RowKit

/-- the program's net at bn, the document's at br; w: the world ahead of the law -/
structure Pr (w W : World) (bn br : Nat) (l1 : List Mg) (S : List Nat) (l2 : List Mg) (T : List Nat) : Prop where
  a : NetAt 47 W bn l1 S
  b : NetAt 33 W br l2 T
  sa : ∀ k ∈ S, w.heap.size ≤ k
  sb : ∀ k ∈ T, w.heap.size ≤ k
  apart : ∀ k ∈ S, k ∉ T
  g : Grew w W

variable {w W W' : World} {bn br : Nat} {l1 l2 l' : List Mg} {S T S' : List Nat}

theorem Pr.grew (h : Pr w W bn br l1 S l2 T) (g : Grew W W') : Pr w W' bn br l1 S l2 T := ⟨h.a.keepG g, h.b.keepG g, h.sa, h.sb, h.apart, Grew.trans h.g g⟩
theorem Pr.drew (h : Pr w W bn br l1 S l2 T) : Pr w W.drew bn br l1 S l2 T := h.grew ((Frm.refl _ W).drew)
theorem Pr.impl (h : Pr w W bn br l1 S l2 T) (n : NetAt 47 W' bn l' S') (f : Frm (· ∈ S) W W') (s : ∀ k ∈ S', k ∈ S ∨ W.heap.size ≤ k) : Pr w W' bn br l' S' l2 T := by
  have hz := h.g.size
  refine ⟨n, h.b.keep f (fun k hk hS => h.apart k hS hk), fun k hk => (s k hk).elim (h.sa k) (fun h => by omega), h.sb, fun k hk hT => ?_, Frm.trans h.g f (fun k hk hS => by have := h.sa k hS; omega)⟩
  rcases s k hk with h1 | h1
  · exact h.apart k h1 hT
  · have := h.b.lt k hT; omega
theorem Pr.ref (h : Pr w W bn br l1 S l2 T) (n : NetAt 33 W' br l' S') (f : Frm (· ∈ T) W W') (s : ∀ k ∈ S', k ∈ T ∨ W.heap.size ≤ k) : Pr w W' bn br l1 S l' S' := by
  have hz := h.g.size
  refine ⟨h.a.keep f (fun k hk hT => h.apart k hk hT), n, h.sa, fun k hk => (s k hk).elim (h.sb k) (fun h => by omega), fun k hk hS => ?_, Frm.trans h.g f (fun k hk hS => by have := h.sb k hS; omega)⟩
  rcases s k hS with h1 | h1
  · exact h.apart k hk h1
  · have := h.a.lt k hk; omega
/-- another block is written -/
theorem Pr.frm {Q : Nat → Prop} (h : Pr w W bn br l1 S l2 T) (f : Frm Q W W') (hS : ∀ k ∈ S, ¬ Q k) (hT : ∀ k ∈ T, ¬ Q k) (hw : ∀ k, Q k → w.heap.size ≤ k) : Pr w W' bn br l1 S l2 T :=
  ⟨h.a.keep f hS, h.b.keep f hT, h.sa, h.sb, h.apart, Frm.trans h.g f (fun k hk hq => by have := hw k hq; omega)⟩

def Both (w W : World) (bn br : Nat) (l : List Mg) : Prop := ∃ S T, Pr w W bn br l S l T
theorem Both.grew {l : List Mg} (h : Both w W bn br l) (g : Grew W W') : Both w W' bn br l := by
  obtain ⟨S, T, h⟩ := h; exact ⟨S, T, h.grew g⟩

theorem NetAt.block {T : TypeId} {S : List Nat} {l : List Mg} (h : NetAt T W bn l S) : ∃ a c, W.heap[bn]? = some (.cells #[.slice a l.length c] T (0, 0)) := by
  obtain ⟨v, rows, h1, h2, h3, rfl, rfl, hnd, hlen, hdat⟩ := h
  obtain ⟨va, vc, rfl, k1, k2, k3⟩ := h2.rd.shape
  exact ⟨va, vc, by simpa using h1⟩
theorem nLen_ext {w0 : World} {s : Ext w0} {l : List Mg} {S : List Nat} (h : NetAt 47 w0 bn l S) : Calls Try.prog 19 #[.pointer (some ⟨bn, 0, none⟩)] s.w fun e w'' => e = .returned (.int .i64 l.length) ∧ ∃ s' : Ext w0, w'' = s'.w :=
  Calls.ext ((nLen_spec _ bn l S (h.keepG s.h)).mono (fun _ _ ⟨h1, h2⟩ => ⟨h1, h2 ▸ Frm.refl _ _⟩))

/-! ### what each of the four does, whatever the net holds -/
def giveOk (l : List Mg) : Bool := decide (0 < l.length)
def giveL (l : List Mg) (pick : Int) : List Mg := if 0 < l.length then l.eraseIdx (pickAt l pick) else l
def giveM (l : List Mg) (pick : Int) : Mg := if h : 0 < l.length then l[pickAt l pick]'(pickAt_lt pick h) else ⟨0, 0, []⟩
def twOk (l : List Mg) : Bool := decide (0 < l.length) && netOk l
def twL (l : List Mg) (pick : Int) : List Mg := if h : 0 < l.length then netSend l (l[pickAt l pick]'(pickAt_lt pick h)) else l
def lateL (l : List Mg) (pick : Int) : List Mg := if h : 0 < l.length then l.eraseIdx (pickAt l pick) ++ [l[pickAt l pick]'(pickAt_lt pick h)] else l
def dropL (l : List Mg) (node : Int) : List Mg := l.filter (fun m => !hit node m)
def dropN (l : List Mg) (node : Int) : Int := (l.length : Int) - ((dropL l node).length : Int)

def GiveAny (T : TypeId) (w : World) (bn : Nat) (S : List Nat) (l : List Mg) (pick : Int) (e : Ending) (w' : World) : Prop :=
  ∃ (S' : List Nat) (a : Option Addr) (c : Nat), e = .returned (.tuple #[.agg #[.int .i64 (giveM l pick).frm, .int .i64 (giveM l pick).to, .slice a (giveM l pick).data.length c], .bool (giveOk l)]) ∧ NetAt T w' bn (giveL l pick) S' ∧
    OwnB w' (.slice a (giveM l pick).data.length c) (giveM l pick).data ∧ Frm (· ∈ S) w w' ∧ (∀ k ∈ S', k ∈ S ∨ w.heap.size ≤ k) ∧ (∀ k, (Value.slice a (giveM l pick).data.length c).ownBlock = some k → k ∈ S ∧ k ∉ S') ∧ (giveM l pick).data.length ≤ 1048576
theorem giveAny_of {T : TypeId} {w w' : World} {bn : Nat} {S : List Nat} {l : List Mg} {pick : Int} {e : Ending} (h0 : NetAt T w bn l S) (h : GivePost T w bn S l pick e w') : GiveAny T w bn S l pick e w' := by
  unfold GivePost at h
  by_cases hl : 0 < l.length
  · rw [if_pos hl] at h
    obtain ⟨hk, S', dv, rfl, h2, h3, h4, h5, h6⟩ := h
    have em : giveM l pick = l[pickAt l pick] := by unfold giveM; rw [dif_pos hl]
    have el : giveL l pick = l.eraseIdx (pickAt l pick) := by unfold giveL; rw [if_pos hl]
    have eo : giveOk l = true := by simp [giveOk, hl]
    unfold GiveAny
    rw [em, el, eo]
    obtain ⟨a, c, rfl, _⟩ := h3.rd.shape
    refine ⟨S', a, c, rfl, h2, h3, h4, h5, h6, ?_⟩
    obtain ⟨_, _, _, _, _, _, _, _, _, h⟩ := h0
    exact h _ (List.getElem_mem hk)
  · rw [if_neg hl] at h
    obtain ⟨rfl, hg⟩ := h
    have em : giveM l pick = ⟨0, 0, []⟩ := by unfold giveM; rw [dif_neg hl]
    have el : giveL l pick = l := by unfold giveL; rw [if_neg hl]
    have eo : giveOk l = false := by simp [giveOk, hl]
    unfold GiveAny
    rw [em, el, eo]
    exact ⟨S, none, 0, rfl, h0.keepG hg, Own.nil _ _ 1, Frm.of_grew hg, fun k hk => .inl hk, fun k hk => (by cases hk), by simp⟩

theorem nGive_any (w : World) (bn : Nat) (l : List Mg) (S : List Nat) (h : NetAt 47 w bn l S) (pick : Int) : Calls Try.prog 10 #[.pointer (some ⟨bn, 0, none⟩), .int .i64 pick] w (GiveAny 47 w bn S l pick) :=
  (nGive_spec w bn l S h pick).mono (fun _ _ hp => giveAny_of h hp)
theorem rnGive_any (w : World) (bn : Nat) (l : List Mg) (S : List Nat) (h : NetAt 33 w bn l S) (pick : Int) : Calls Try.prog 11 #[.pointer (some ⟨bn, 0, none⟩), .int .i64 pick] w (GiveAny 33 w bn S l pick) :=
  (rnGive_spec w bn l S h pick).mono (fun _ _ hp => giveAny_of h hp)
theorem nTwice_any (w : World) (bn : Nat) (l : List Mg) (S : List Nat) (h : NetAt 47 w bn l S) (pick : Int) : Calls Try.prog 13 #[.pointer (some ⟨bn, 0, none⟩), .int .i64 pick] w (NetPost 47 w bn S (.bool (twOk l)) (twL l pick)) := by
  by_cases hl : 0 < l.length
  · rw [show twOk l = netOk l by simp [twOk, hl], show twL l pick = netSend l (l[pickAt l pick]'(pickAt_lt pick hl)) by unfold twL; rw [dif_pos hl]]
    exact nTwice_spec w bn l S h pick hl
  · obtain rfl : l = [] := List.eq_nil_of_length_eq_zero (by omega)
    exact nTwice_none w bn S h pick
theorem nLate_any (w : World) (bn : Nat) (l : List Mg) (S : List Nat) (h : NetAt 47 w bn l S) (pick : Int) : Calls Try.prog 15 #[.pointer (some ⟨bn, 0, none⟩), .int .i64 pick] w (NetPost 47 w bn S (.bool (giveOk l)) (lateL l pick)) := by
  by_cases hl : 0 < l.length
  · rw [show giveOk l = true by simp [giveOk, hl], show lateL l pick = l.eraseIdx (pickAt l pick) ++ [l[pickAt l pick]'(pickAt_lt pick hl)] by unfold lateL; rw [dif_pos hl]]
    exact nLate_spec w bn l S h pick hl
  · obtain rfl : l = [] := List.eq_nil_of_length_eq_zero (by omega)
    exact nLate_none w bn S h pick
theorem nDrop_any (w : World) (bn : Nat) (l : List Mg) (S : List Nat) (h : NetAt 47 w bn l S) (node : Int) : Calls Try.prog 17 #[.pointer (some ⟨bn, 0, none⟩), .int .i64 node] w (NetPost 47 w bn S (.int .i64 (dropN l node)) (dropL l node)) :=
  nDrop_spec w bn l S h node
theorem rnTwice_any (w : World) (bn : Nat) (l : List Mg) (S : List Nat) (h : NetAt 33 w bn l S) (pick : Int) : Calls Try.prog 14 #[.pointer (some ⟨bn, 0, none⟩), .int .i64 pick] w (NetPost 33 w bn S (.bool (twOk l)) (twL l pick)) := by
  by_cases hl : 0 < l.length
  · rw [show twOk l = netOk l by simp [twOk, hl], show twL l pick = netSend l (l[pickAt l pick]'(pickAt_lt pick hl)) by unfold twL; rw [dif_pos hl]]
    exact rnTwice_spec w bn l S h pick hl
  · obtain rfl : l = [] := List.eq_nil_of_length_eq_zero (by omega)
    exact rnTwice_none w bn S h pick
theorem rnLate_any (w : World) (bn : Nat) (l : List Mg) (S : List Nat) (h : NetAt 33 w bn l S) (pick : Int) : Calls Try.prog 16 #[.pointer (some ⟨bn, 0, none⟩), .int .i64 pick] w (NetPost 33 w bn S (.bool (giveOk l)) (lateL l pick)) := by
  by_cases hl : 0 < l.length
  · rw [show giveOk l = true by simp [giveOk, hl], show lateL l pick = l.eraseIdx (pickAt l pick) ++ [l[pickAt l pick]'(pickAt_lt pick hl)] by unfold lateL; rw [dif_pos hl]]
    exact rnLate_spec w bn l S h pick hl
  · obtain rfl : l = [] := List.eq_nil_of_length_eq_zero (by omega)
    exact rnLate_none w bn S h pick
theorem rnDrop_any (w : World) (bn : Nat) (l : List Mg) (S : List Nat) (h : NetAt 33 w bn l S) (node : Int) : Calls Try.prog 18 #[.pointer (some ⟨bn, 0, none⟩), .int .i64 node] w (NetPost 33 w bn S (.int .i64 (dropN l node)) (dropL l node)) :=
  rnDrop_spec w bn l S h node

def sumB (rows : List Sr) (j : Nat) : Nat := ((rows.take j).map fun r => r.s.data.length).sum
theorem sumB_succ (rows : List Sr) (j : Nat) (hj : j < rows.length) : sumB rows (j + 1) = sumB rows j + rows[j].s.data.length := by
  unfold sumB
  rw [List.take_succ_eq_append_getElem hj, List.map_append, List.sum_append]
  simp
theorem sumB_mono (rows : List Sr) {i j : Nat} (h : i ≤ j) : sumB rows i ≤ sumB rows j := by
  obtain ⟨d, rfl⟩ := Nat.exists_eq_add_of_le h
  unfold sumB
  rw [List.take_add, List.map_append, List.sum_append]; omega
theorem sumB_le (rows : List Sr) {i j : Nat} (h : i < j) (hi : i < rows.length) : rows[i].s.data.length ≤ sumB rows j := by
  have h1 := sumB_succ rows i hi
  have h2 := sumB_mono rows (show i + 1 ≤ j by omega)
  omega
end Go.Proofs.Ytccknjnbpccmhaa
