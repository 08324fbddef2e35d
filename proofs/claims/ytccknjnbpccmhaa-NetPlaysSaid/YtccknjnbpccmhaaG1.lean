/- Give, Twice, Late. -/
import Derived.Test.YtccknjnbpccmhaaF1
import Derived.Test.YtccknjnbpccmhaaE1
namespace Go.Proofs.Ytccknjnbpccmhaa
open Go.RowKit

/-- What Give answers. -/
def GivePost (T : TypeId) (w : World) (bn : Nat) (S : List Nat) (l : List Mg) (pick : Int) (e : Ending) (w' : World) : Prop :=
  if 0 < l.length then ∃ (hk : pickAt l pick < l.length) (S' : List Nat) (dv : Value),
      e = .returned (.tuple #[.agg #[.int .i64 l[pickAt l pick].frm, .int .i64 l[pickAt l pick].to, dv], .bool true]) ∧ NetAt T w' bn (l.eraseIdx (pickAt l pick)) S' ∧ OwnB w' dv l[pickAt l pick].data ∧ Frm (· ∈ S) w w' ∧
        (∀ k ∈ S', k ∈ S ∨ w.heap.size ≤ k) ∧ ∀ k, dv.ownBlock = some k → k ∈ S ∧ k ∉ S'
  else e = .returned (.tuple #[.agg #[.int .i64 0, .int .i64 0, .slice none 0 0], .bool false]) ∧ Grew w w'

set_option maxRecDepth 100000 in
set_option maxHeartbeats 2000000 in
theorem nGive_spec (w : World) (bn : Nat) (l : List Mg) (S : List Nat) (h : NetAt 47 w bn l S) (pick : Int) :
    Calls Try.prog 10 #[.pointer (some ⟨bn, 0, none⟩), .int .i64 pick] w (GivePost 47 w bn S l pick) := by
  have hS := h.lt
  have g1 := grew_alloc w (.cells #[.pointer (some ⟨bn, 0, none⟩)] 28)
  have g2 : Grew w ((w.alloc (.cells #[.pointer (some ⟨bn, 0, none⟩)] 28)).alloc (.cells #[.int .i64 0, .int .i64 0, .slice none 0 0] 25)) := g1.alloc _
  have b1 : ((w.alloc (.cells #[.pointer (some ⟨bn, 0, none⟩)] 28)).alloc (.cells #[.int .i64 0, .int .i64 0, .slice none 0 0] 25)).heap[w.heap.size]? = some (.cells #[.pointer (some ⟨bn, 0, none⟩)] 28 (0, 0)) := (grew_alloc _ _).keepG (heap_alloc_new' w _)
  have b2 := heap_alloc_new' (w.alloc (.cells #[.pointer (some ⟨bn, 0, none⟩)] 28)) (.cells #[.int .i64 0, .int .i64 0, .slice none 0 0] 25)
  simp only [World.size_alloc] at b2
  have hn := h.keepG g2
  have B := Lib.hid (And.intro b1 b2)
  by_cases hl : 0 < l.length
  · have hp := picked_give _ bn l S hn hl pick w.heap.size (w.heap.size + 1) true _ ((giveC_spec _ bn l S hn (pickAt l pick) (pickAt_lt pick hl) w.heap.size (w.heap.size + 1) b1 b2 (fun hm => by have := hS _ hm; omega) (fun hm => by have := hS _ hm; omega) (by omega)).mono
      (R' := fun e w' => e = .returned (.bool true) ∧ ∃ (hk : pickAt l pick < l.length) (S' : List Nat) (dv : Value), w'.heap[w.heap.size + 1]? = some (.cells #[.int .i64 l[pickAt l pick].frm, .int .i64 l[pickAt l pick].to, dv] 25 (0, 0)) ∧ NetAt 47 w' bn (l.eraseIdx (pickAt l pick)) S' ∧ OwnB w' dv l[pickAt l pick].data ∧
        Frm (fun k => k ∈ S ∨ k = w.heap.size + 1) ((w.alloc (.cells #[.pointer (some ⟨bn, 0, none⟩)] 28)).alloc (.cells #[.int .i64 0, .int .i64 0, .slice none 0 0] 25)) w' ∧ (∀ k ∈ S', k ∈ S) ∧ ∀ k, dv.ownBlock = some k → k ∈ S ∧ k ∉ S')
      (fun e w' h => by
        obtain ⟨hk, S', dv, ⟨rfl, f, t, dv', hm, hc⟩, h2, h3, h4, h5, h6⟩ := h
        cases hm
        exact ⟨rfl, hk, S', dv, hc, h2, h3, h4, h5, h6⟩))
    have Hp := Lib.hid hp
    clear hp b1 b2
    go_enter Try.func10, Try.ntmps10
    go_wp2_with
      (go_at_call 24
       (with_reducible refine Hp.out.mono ?_)
       rintro e w2 ⟨rfl, hk, S', dv, hc, h2, h3, h4, h5, h6⟩
       obtain ⟨da, dc, rfl, _, _, _⟩ := h3.rd.shape
       have c0 : w2.cell? ⟨w.heap.size + 1, 0, none⟩ = some (.int .i64 l[pickAt l pick].frm) := cell_is hc 0 _ rfl
       have c1 : w2.cell? ⟨w.heap.size + 1, 1, none⟩ = some (.int .i64 l[pickAt l pick].to) := cell_is hc 1 _ rfl
       have c2 : w2.cell? ⟨w.heap.size + 1, 2, none⟩ = some (.slice da l[pickAt l pick].data.length dc) := cell_is hc 2 _ rfl
       have f2 := frozen_of hc)
    have f3 : Frm (fun k => k = w.heap.size + 1) w2 (((w2.setCell ⟨w.heap.size + 1, 0, none⟩ (.int .i64 l[pickAt l pick].frm)).setCell ⟨w.heap.size + 1, 1, none⟩ (.int .i64 l[pickAt l pick].to)).setCell ⟨w.heap.size + 1, 2, none⟩ (.slice da l[pickAt l pick].data.length dc)) :=
      (((Frm.refl (fun k => k = w.heap.size + 1) w2).setCell (p := ⟨w.heap.size + 1, 0, none⟩) (fun _ => rfl) _).setCell (p := ⟨w.heap.size + 1, 1, none⟩) (fun _ => rfl) _).setCell (p := ⟨w.heap.size + 1, 2, none⟩) (fun _ => rfl) _
    refine bodyPost_ret (v := .tuple #[.agg #[.int .i64 l[pickAt l pick].frm, .int .i64 l[pickAt l pick].to, .slice da l[pickAt l pick].data.length dc], .bool true]) (by simp [results, Try.results10, go_sem, c0, c1, c2]) rfl ?_
    unfold GivePost
    rw [if_pos hl]
    refine ⟨hk, S', _, rfl, h2.keep f3 (fun k hk e => by have := hS _ (h5 k hk); omega), h3.keep f3 (fun k hk e => by have := hS _ (h6 k hk).1; omega), ?_, fun k hk => .inl (h5 k hk), h6⟩
    refine Frm.trans (S := (· ∈ S)) (T := fun k => k ∈ S ∨ k = w.heap.size + 1) (Frm.of_grew g2) ?_ (fun k hk h => h.elim id (fun h => by omega))
    exact h4.trans f3 (fun k _ e => .inr e)
  · obtain rfl : l = [] := List.eq_nil_of_length_eq_zero (by omega)
    have hp := picked_none_give _ bn S hn pick w.heap.size (w.heap.size + 1)
    have Hp := Lib.hid hp
    have c0 := cell_is b2 0 (.int .i64 0) rfl
    have c1 := cell_is b2 1 (.int .i64 0) rfl
    have c2 := cell_is b2 2 (.slice none 0 0) rfl
    clear hp b1 b2
    go_enter Try.func10, Try.ntmps10
    go_wp2_with
      (go_at_call 24
       (with_reducible refine Hp.out.mono ?_)
       rintro e w2 ⟨rfl, rfl⟩)
    refine bodyPost_ret (v := .tuple #[.agg #[.int .i64 0, .int .i64 0, .slice none 0 0], .bool false]) (by simp [results, Try.results10, go_sem]) rfl ?_
    unfold GivePost
    rw [if_neg hl]
    exact ⟨rfl, g2⟩
set_option maxRecDepth 100000 in
set_option maxHeartbeats 2000000 in
theorem nTwice_spec (w : World) (bn : Nat) (l : List Mg) (S : List Nat) (h : NetAt 47 w bn l S) (pick : Int) (hl : 0 < l.length) :
    Calls Try.prog 13 #[.pointer (some ⟨bn, 0, none⟩), .int .i64 pick] w (NetPost 47 w bn S (.bool (netOk l)) (netSend l (l[pickAt l pick]'(pickAt_lt pick hl)))) := by
  have hS := h.lt
  have g1 := grew_alloc w (.cells #[.pointer (some ⟨bn, 0, none⟩)] 28)
  have b1 := heap_alloc_new' w (.cells #[.pointer (some ⟨bn, 0, none⟩)] 28)
  have hn := h.keepG g1
  have hp := picked_twice _ bn l S hn hl pick w.heap.size (netOk l) _ ((twiceC_spec _ bn l S hn (pickAt l pick) (pickAt_lt pick hl) w.heap.size b1 ).mono
    (R' := fun e w' => e = .returned (.bool (netOk l)) ∧ ∃ S', NetAt 47 w' bn (netSend l (l[pickAt l pick]'(pickAt_lt pick hl))) S' ∧ Frm (· ∈ S) (w.alloc (.cells #[.pointer (some ⟨bn, 0, none⟩)] 28)) w' ∧ ∀ k ∈ S', k ∈ S ∨ (w.alloc (.cells #[.pointer (some ⟨bn, 0, none⟩)] 28)).heap.size ≤ k)
    (fun e w' ⟨S', h1, h2, h3, h4⟩ => ⟨h1, S', h2, h3, h4⟩))
  have Hp := Lib.hid hp
  clear hp
  go_enter Try.func13, Try.ntmps13
  go_wp2_with
    (go_at_call 24
     (with_reducible refine Hp.out.mono ?_)
     rintro e w2 ⟨rfl, S', h2, h3, h4⟩)
  go_ret
  exact ⟨S', rfl, h2, Grew.trans g1 h3, fun k hk => (h4 k hk).imp id (fun h => Nat.le_trans g1.size h)⟩
set_option maxRecDepth 100000 in
set_option maxHeartbeats 2000000 in
theorem nTwice_none (w : World) (bn : Nat) (S : List Nat) (h : NetAt 47 w bn [] S) (pick : Int) :
    Calls Try.prog 13 #[.pointer (some ⟨bn, 0, none⟩), .int .i64 pick] w (NetPost 47 w bn S (.bool false) []) := by
  have g1 := grew_alloc w (.cells #[.pointer (some ⟨bn, 0, none⟩)] 28)
  have b1 := heap_alloc_new' w (.cells #[.pointer (some ⟨bn, 0, none⟩)] 28)
  have hp := picked_none_twice _ bn S (h.keepG g1) pick w.heap.size
  have Hp := Lib.hid hp
  clear hp
  go_enter Try.func13, Try.ntmps13
  go_wp2_with
    (go_at_call 24
     (with_reducible refine Hp.out.mono ?_)
     rintro e w2 ⟨rfl, rfl⟩)
  go_ret
  exact ⟨S, rfl, h.keepG g1, Frm.of_grew g1, fun k hk => .inl hk⟩
set_option maxRecDepth 100000 in
set_option maxHeartbeats 2000000 in
theorem nLate_spec (w : World) (bn : Nat) (l : List Mg) (S : List Nat) (h : NetAt 47 w bn l S) (pick : Int) (hl : 0 < l.length) :
    Calls Try.prog 15 #[.pointer (some ⟨bn, 0, none⟩), .int .i64 pick] w (NetPost 47 w bn S (.bool (true)) (l.eraseIdx (pickAt l pick) ++ [l[pickAt l pick]'(pickAt_lt pick hl)])) := by
  have hS := h.lt
  have g1 := grew_alloc w (.cells #[.pointer (some ⟨bn, 0, none⟩)] 28)
  have b1 := heap_alloc_new' w (.cells #[.pointer (some ⟨bn, 0, none⟩)] 28)
  have hn := h.keepG g1
  have hp := picked_late _ bn l S hn hl pick w.heap.size (true) _ ((lateC_spec _ bn l S hn (pickAt l pick) (pickAt_lt pick hl) w.heap.size b1 (fun hm => by have := hS _ hm; omega)).mono
    (R' := fun e w' => e = .returned (.bool (true)) ∧ ∃ S', NetAt 47 w' bn (l.eraseIdx (pickAt l pick) ++ [l[pickAt l pick]'(pickAt_lt pick hl)]) S' ∧ Frm (· ∈ S) (w.alloc (.cells #[.pointer (some ⟨bn, 0, none⟩)] 28)) w' ∧ ∀ k ∈ S', k ∈ S ∨ (w.alloc (.cells #[.pointer (some ⟨bn, 0, none⟩)] 28)).heap.size ≤ k)
    (fun e w' ⟨S', h1, h2, h3, h4⟩ => ⟨h1, S', h2, h3, h4⟩))
  have Hp := Lib.hid hp
  clear hp
  go_enter Try.func15, Try.ntmps15
  go_wp2_with
    (go_at_call 24
     (with_reducible refine Hp.out.mono ?_)
     rintro e w2 ⟨rfl, S', h2, h3, h4⟩)
  go_ret
  exact ⟨S', rfl, h2, Grew.trans g1 h3, fun k hk => (h4 k hk).imp id (fun h => Nat.le_trans g1.size h)⟩
set_option maxRecDepth 100000 in
set_option maxHeartbeats 2000000 in
theorem nLate_none (w : World) (bn : Nat) (S : List Nat) (h : NetAt 47 w bn [] S) (pick : Int) :
    Calls Try.prog 15 #[.pointer (some ⟨bn, 0, none⟩), .int .i64 pick] w (NetPost 47 w bn S (.bool false) []) := by
  have g1 := grew_alloc w (.cells #[.pointer (some ⟨bn, 0, none⟩)] 28)
  have b1 := heap_alloc_new' w (.cells #[.pointer (some ⟨bn, 0, none⟩)] 28)
  have hp := picked_none_late _ bn S (h.keepG g1) pick w.heap.size
  have Hp := Lib.hid hp
  clear hp
  go_enter Try.func15, Try.ntmps15
  go_wp2_with
    (go_at_call 24
     (with_reducible refine Hp.out.mono ?_)
     rintro e w2 ⟨rfl, rfl⟩)
  go_ret
  exact ⟨S, rfl, h.keepG g1, Frm.of_grew g1, fun k hk => .inl hk⟩
end Go.Proofs.Ytccknjnbpccmhaa
