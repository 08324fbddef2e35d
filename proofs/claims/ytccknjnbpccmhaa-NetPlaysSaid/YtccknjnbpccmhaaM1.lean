/- messages; known. -/
import Derived.Test.YtccknjnbpccmhaaL1
import Derived.Test.YtccknjnbpccmhaaRY
namespace Go.Proofs.Ytccknjnbpccmhaa
open Go.RowKit

set_option maxRecDepth 100000 in
set_option maxHeartbeats 2000000 in
theorem messages_spec (w : World) (f t : Int) (va vb : Value) (l : List UInt8) (ha : Bytes w va l) (hb : Bytes w vb l) :
    Calls Try.prog 12 #[.agg #[.int .i64 f, .int .i64 t, va], .agg #[.int .i64 f, .int .i64 t, vb]] w (BoolPost w true) := by
  obtain ⟨aa, ca, rfl, _, _, _⟩ := ha.shape
  obtain ⟨ab, cb, rfl, _, _, _⟩ := hb.shape
  have g2 : Grew w ((w.alloc (.cells #[.int .i64 f, .int .i64 t, .slice aa l.length ca] 25)).alloc (.cells #[.int .i64 f, .int .i64 t, .slice ab l.length cb] 25)) := (grew_alloc w _).alloc _
  have hs := same_spec _ _ _ l l (ha.keepG g2) (hb.keepG g2)
  rw [decide_eq_true rfl] at hs
  have Hs := Lib.hid hs
  clear hs ha hb
  go_enter Try.func12, Try.ntmps12
  go_wp2_with
    (go_at_call 23
     (with_reducible refine Hs.out.mono ?_)
     rintro e w2 ⟨rfl, g3⟩)
  go_ret
  exact ⟨rfl, Grew.trans g2 g3⟩

theorem nsend_ok {l : List Mg} {m : Mg} (h : l.length < 1024) : netOk l = true ∧ netSend l m = l ++ [m] := by simp [netOk, netSend, h]

theorem grew_of_frm {w w1 w2 : World} {S : List Nat} (g : Grew w w1) (f : Frm (· ∈ S) w1 w2) (hS : ∀ k ∈ S, w.heap.size ≤ k) : Grew w w2 :=
  Frm.trans g f (fun k hk h => by have := hS k h; omega)

set_option maxRecDepth 100000 in
set_option maxHeartbeats 2000000 in
theorem known_spec (w : World) : Calls Try.prog 20 #[] w (BoolPost w true) := by
  go_enter Try.func20, Try.ntmps20
  go_wp2_with fail
  refine (nNew_spec _).mono ?_
  rintro e w1 ⟨bn, rfl, n1, g1, hb⟩
  have s1 : ∀ k ∈ [bn], w.heap.size ≤ k := fun k hk => by obtain rfl := List.mem_singleton.1 hk; exact hb
  go_wp2_with fail
  refine (nSend_spec _ bn [] [bn] n1 1 0 (.slice none 0 0) [] (Rd.nil w1 _ 1) (by simp)).mono ?_
  rintro e w2 ⟨S2, rfl, n2, f2, h2⟩
  rw [(nsend_ok (l := []) (by simp)).2] at n2
  have g2 : Grew w w2 := grew_of_frm g1 f2 s1
  have s2 : ∀ k ∈ S2, w.heap.size ≤ k := fun k hk => (h2 k hk).elim (s1 k) (fun h => Nat.le_trans g1.size h)
  go_wp2_with fail
  refine (nSend_spec _ bn _ S2 n2 2 0 (.slice none 0 0) [] (Rd.nil w2 _ 1) (by simp)).mono ?_
  rintro e w3 ⟨S3, rfl, n3, f3, h3⟩
  rw [(nsend_ok (by simp)).2] at n3
  have g3 : Grew w w3 := grew_of_frm g2 f3 s2
  have s3 : ∀ k ∈ S3, w.heap.size ≤ k := fun k hk => (h3 k hk).elim (s2 k) (fun h => Nat.le_trans g2.size h)
  go_wp2_with fail
  refine (nLate_spec _ bn _ S3 n3 0 (by simp)).mono ?_
  rintro e w4 ⟨S4, rfl, n4, f4, h4⟩
  have e4 : (([] ++ [(⟨1, 0, []⟩ : Mg)] ++ [(⟨2, 0, []⟩ : Mg)]).eraseIdx (pickAt ([] ++ [(⟨1, 0, []⟩ : Mg)] ++ [(⟨2, 0, []⟩ : Mg)]) 0) ++ [([] ++ [(⟨1, 0, []⟩ : Mg)] ++ [(⟨2, 0, []⟩ : Mg)])[pickAt ([] ++ [(⟨1, 0, []⟩ : Mg)] ++ [(⟨2, 0, []⟩ : Mg)]) 0]'(pickAt_lt 0 (by simp))]) = [⟨2, 0, []⟩, ⟨1, 0, []⟩] := rfl
  rw [e4] at n4
  have g4 : Grew w w4 := grew_of_frm g3 f4 s3
  have s4 : ∀ k ∈ S4, w.heap.size ≤ k := fun k hk => (h4 k hk).elim (s3 k) (fun h => Nat.le_trans g3.size h)
  go_wp2_with fail
  refine (nGive_spec _ bn _ S4 n4 0).mono ?_
  intro e w5 hp
  unfold GivePost at hp
  rw [if_pos (by simp)] at hp
  obtain ⟨hk, S5, dv, he, n5, hB, f5, h5, h6⟩ := hp
  have he' : e = .returned (.tuple #[.agg #[.int .i64 2, .int .i64 0, dv], .bool true]) := he
  have n5' : NetAt 47 w5 bn [⟨1, 0, []⟩] S5 := n5
  have hB' : OwnB w5 dv [] := hB
  clear he n5 hB
  subst he'
  obtain ⟨da, dc, rfl, _, _, _⟩ := hB'.rd.shape
  have g5 : Grew w w5 := grew_of_frm g4 f5 s4
  go_wp2_with
    (go_at_call 19
     (with_reducible refine (nLen_spec _ bn _ S5 (n5'.keepG (grew_alloc w5 _))).mono ?_)
     rintro e w6 ⟨rfl, rfl⟩)
  go_ret
  exact ⟨rfl, g5.alloc _⟩
end Go.Proofs.Ytccknjnbpccmhaa
