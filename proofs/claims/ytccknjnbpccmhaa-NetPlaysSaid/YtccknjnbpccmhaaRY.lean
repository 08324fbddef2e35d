/- The law's helpers: roomy, stands, spoil. -/
import Derived.Test.YtccknjnbpccmhaaS
namespace Go.Proofs.Ytccknjnbpccmhaa
open Go.RowKit

variable {w w' : World}

/-- A shorter beginning of a slice, with the room behind it. -/
theorem OwnB.cutC {l : List UInt8} {a : Option Addr} {n cap : Nat} (h : Own w 5 1 (.slice a n cap) n (l.map bc)) {k : Nat} (hk : k ≤ l.length) : OwnB w (.slice a k cap) (l.take k) := by
  have hn : n = l.length := by have := h.1; simp at this; omega
  subst hn
  have hl : (l.take k).length = k := by simp [hk]
  refine ⟨by simp, ?_⟩
  rcases h.2 with ⟨h1, h2⟩ | ⟨g, cap', c, h1, a2, a3, a4, a5, a6⟩
  · left
    have h1a : a = none := by injection h1
    have h1c : cap = 0 := by injection h1
    have hk0 : k = 0 := by omega
    subst h1a; subst h1c; subst hk0
    exact ⟨rfl, by simp⟩
  · right
    cases h1
    refine ⟨g, cap, c, by rw [hl], a2, by rw [hl]; omega, a4, a5, ?_⟩
    rw [hl, List.map_take, ← a6, List.take_take, Nat.mul_one, Nat.mul_one, Nat.min_eq_left hk]

theorem bytes_one (w : World) (x : UInt8) (C : Array Value) (hC : C = #[bc x]) : Bytes (w.alloc (.cells C 5)) (.slice (some ⟨w.heap.size, 0, none⟩) 1 1) [x] := by
  subst hC
  exact (Own.lit w 5 1 1 #[bc x] rfl (by unfold maxLen; omega)).rd

def RoomyPost (w : World) (l : List UInt8) (e : Ending) (w' : World) : Prop :=
  ∃ g cap, e = .returned (.slice (some ⟨g, 0, none⟩) (l.length + 1) cap) ∧ OwnB w' (.slice (some ⟨g, 0, none⟩) (l.length + 1) cap) (l ++ [171]) ∧ Grew w w' ∧ w.heap.size ≤ g

set_option maxRecDepth 100000 in
set_option maxHeartbeats 2000000 in
theorem roomy_spec (w : World) (v : Value) (l : List UInt8) (h : Bytes w v l) (hl : l.length ≤ 70368744177664) : Calls Try.prog 5 #[v] w (RoomyPost w l) := by
  obtain ⟨a, c, rfl, k1, k2, k3⟩ := h.shape
  unfold maxLen at k2 k3
  have Hh := Lib.hid h
  clear h
  go_enter Try.func5, Try.ntmps5
  go_wp2_with (at_builtin; first
    | (refine wpList_appendB (.slice (some ⟨w.heap.size, 0, none⟩) 0 0) (.slice a l.length c) [] l rfl _ _ rfl rfl rfl (Own.made w 5 1) (Hh.out.keepG (grew_alloc w _)) (by simp; omega) ?_
       intro v1 w1 p1 p2 p3 p4
       have g1 : Grew w w1 := Frm.trans (grew_alloc w _) p2 (fun k hk e => by have := Option.some.inj e; simp only at this; omega)
       have f1 : ∀ k, v1.ownBlock = some k → w.heap.size ≤ k := fun k hk => by
         rcases p3 with h | h <;> rw [h] at hk
         · have := Option.some.inj hk; simp only at this; omega
         · have := Option.some.inj hk; simp at this; omega
       have n1 : v1 ≠ .slice none 0 0 := p4 (by simp)
       have P1 := Lib.hid p1
       clear p1 p2 p3 p4)
    | (refine wpList_appendB v1 (.slice (some ⟨w1.heap.size, 0, none⟩) 1 1) ([] ++ l) [171] rfl _ _ rfl rfl rfl (P1.out.keepG (grew_alloc w1 _)) (bytes_one w1 171 _ rfl) (by simp; omega) ?_
       intro v2 w2 q1 q2 q3 q4
       have g2 : Grew w w2 := Frm.trans (g1.alloc _) q2 (fun k hk e => by have := f1 k e; omega)
       have f2 : ∀ k, v2.ownBlock = some k → w.heap.size ≤ k := fun k hk => by
         rcases q3 with h | h <;> rw [h] at hk
         · exact f1 k hk
         · have h1 := Option.some.inj hk; have h2 := g1.size; simp only [World.size_alloc] at h1; omega
       have n2 : v2 ≠ .slice none 0 0 := q4 n1
       have Q1 := Lib.hid q1
       clear q1 q2 q3 q4)
    | (refine wpList_appendB v2 (.slice (some ⟨w2.heap.size, 0, none⟩) 1 1) ([] ++ l ++ [171]) [171] rfl _ _ rfl rfl rfl (Q1.out.keepG (grew_alloc w2 _)) (bytes_one w2 171 _ rfl) (by simp; omega) ?_
       intro v3 w3 r1 r2 r3 r4
       have g3 : Grew w w3 := Frm.trans (g2.alloc _) r2 (fun k hk e => by have := f2 k e; omega)
       have f3 : ∀ k, v3.ownBlock = some k → w.heap.size ≤ k := fun k hk => by
         rcases r3 with h | h <;> rw [h] at hk
         · exact f2 k hk
         · have h1 := Option.some.inj hk; have h2 := g2.size; simp only [World.size_alloc] at h1; omega
       obtain ⟨va, vc, hv3, _, _, _⟩ := r1.rd.shape
       rw [show ([] ++ l ++ [171] ++ [171] : List UInt8).length = l.length + 2 by simp] at hv3
       obtain ⟨g, rfl, hc3, hcm⟩ : ∃ g, va = some ⟨g, 0, none⟩ ∧ l.length + 2 ≤ vc ∧ vc ≤ 9223372036854775807 := by
         rcases r1.2 with ⟨h, _⟩ | ⟨g, cap, c, h, _, h3, _, h5, _⟩
         · rw [hv3] at h
           have := (Value.slice.inj h).2.1
           omega
         · rw [hv3] at h
           obtain ⟨i1, i2, i3⟩ := Value.slice.inj h
           unfold maxLen at h5
           exact ⟨g, i1, by rw [i3]; rw [← i2] at h3; exact h3, by rw [i3]; exact h5⟩
       subst hv3
       have R1 := Lib.hid r1
       clear r1 r2 r3 r4))
  go_ret
  refine ⟨g, vc, rfl, ?_, g3, f3 g rfl⟩
  have h4 : Own w3 5 1 (.slice (some ⟨g, 0, none⟩) (l.length + 2) vc) (l.length + 2) ((l ++ [171] ++ [171]).map bc) := by
    have h := R1.out
    unfold OwnB at h
    rw [show ([] ++ l ++ [171] ++ [171] : List UInt8).length = l.length + 2 by simp] at h
    simpa using h
  have h5 := OwnB.cutC h4 (k := l.length + 1) (by simp)
  rw [List.take_append_of_le_length (by simp), List.take_of_length_le (by simp)] at h5
  exact h5

set_option maxRecDepth 100000 in
set_option maxHeartbeats 2000000 in
theorem stands_spec (w : World) (g cap : Nat) (vb : Value) (l : List UInt8) (hg : OwnB w (.slice (some ⟨g, 0, none⟩) (l.length + 1) cap) (l ++ [171])) (hb : Bytes w vb l) :
    Calls Try.prog 8 #[.slice (some ⟨g, 0, none⟩) (l.length + 1) cap, vb] w (BoolPost w true) := by
  obtain ⟨ab, cb, rfl, b1, b2, b3⟩ := hb.shape
  unfold maxLen at b2 b3
  obtain ⟨_, _, he, k1, k2, k3⟩ := hg.rd.shape
  have h3 := (Value.slice.inj he).2.2
  subst h3
  unfold maxLen at k2 k3
  rw [List.length_append, List.length_cons, List.length_nil] at k1 k2
  have hc := OwnB.cutC (n := l.length + 1) (by unfold OwnB at hg; rw [List.length_append] at hg; exact hg) (k := l.length) (by simp)
  rw [List.take_left' rfl] at hc
  have hx : w.cell? ⟨g, l.length, none⟩ = some (.int .u8 171) := by
    have h := hg.rd.cell (g := g) (off := 0) (cap := cap) (by rw [List.length_append]; rfl) l.length (u := bc 171) (by simp)
    simpa [bc] using h
  have hs := same_spec w (.slice (some ⟨g, 0, none⟩) l.length cap) _ l l hc.rd hb
  rw [decide_eq_true rfl] at hs
  have Hs := Lib.hid hs
  clear hs he hg hc
  have i1 : (0 : Int) ≤ (l.length : Int) := Int.natCast_nonneg _
  have i2 : (l.length : Int) < (l.length : Int) + 1 := by omega
  have i3 : l.length ≤ cap := by omega
  have i4 : l.length + 1 ≤ cap := by omega
  have i5 : l.length ≤ 9223372036854775806 := by omega
  clear k1 k2 k3
  go_enter Try.func8, Try.ntmps8
  go_wp2_with
    (go_at_call 23
     (with_reducible refine Hs.out.mono ?_)
     rintro e w2 ⟨rfl, g2⟩
     have hx2 := g2.cellG hx)
  go_ret
  exact ⟨rfl, g2⟩

def SpoilPost (w : World) (v : Value) (e : Ending) (w' : World) : Prop := e = .returned (.tuple #[]) ∧ Frm (fun k => v.ownBlock = some k) w w'

set_option maxRecDepth 100000 in
set_option maxHeartbeats 2000000 in
theorem spoil_spec (w : World) (v : Value) (l : List UInt8) (hv : OwnB w v l) (hl : l.length ≤ 70368744177664) : Calls Try.prog 9 #[v] w (SpoilPost w v) := by
  obtain ⟨va, vc, rfl, k1, k2, k3⟩ := hv.rd.shape
  have Hv := Lib.hid hv
  clear hv
  go_enter Try.func9, Try.ntmps9
  go_wp2_with (at_builtin; first
    | (refine wpList_appendB (.slice va l.length vc) (.slice (some ⟨w.heap.size, 0, none⟩) 1 1) l [99] rfl _ _ rfl rfl rfl (Hv.out.keepG (grew_alloc w _)) (bytes_one w 99 _ rfl) (by simp; omega) ?_
       intro v1 w1 p1 p2 p3 p4
       obtain ⟨xa, xc, hv1, x1, x2, x3⟩ := p1.rd.shape
       have hln : (l ++ [(99 : UInt8)]).length = l.length + 1 := by simp
       rw [hln] at hv1 x1 x2
       clear hln
       subst hv1
       unfold maxLen at x2 x3
       obtain ⟨g, rfl⟩ : ∃ g, xa = some ⟨g, 0, none⟩ := by
         rcases p1.2 with ⟨h, _⟩ | ⟨g, cap, c, h, _⟩
         · have := (Value.slice.inj h).2.1; omega
         · exact ⟨g, (Value.slice.inj h).1⟩
       have f1 : Frm (fun k => (Value.slice va l.length vc).ownBlock = some k) w w1 := Grew.trans (grew_alloc w _) p2
       have hgb : g < w.heap.size → (Value.slice va l.length vc).ownBlock = some g := fun h => by
         rcases p3 with e | e
         · exact e.symm
         · have := Option.some.inj e; simp only [World.size_alloc] at this; omega
       have P1 := Lib.hid p1
       clear p1 p2 p3 p4))
  go_loopg [3] (l.length + 2) (fun gk i wr => ∃ (j : Nat) (m : List UInt8), j ≤ l.length + 1 ∧ gk + j = l.length + 2 ∧ i = .int .i64 j ∧ m.length = l.length + 1 ∧ OwnB wr (.slice (some ⟨g, 0, none⟩) m.length xc) m ∧ Frm (fun k => k = g) w1 wr)
  case atStart => exact ⟨0, l ++ [99], Nat.zero_le _, rfl, rfl, by simp, by have h := P1.out; rw [show (l ++ [(99 : UInt8)]).length = l.length + 1 from by simp]; exact h, Frm.refl _ w1⟩
  case round =>
    obtain ⟨j, m, hj, hgk, rfl, hm, hr, hf⟩ := hrel
    have Hgk := Lib.hid hgk
    have Hm := Lib.hid hm
    have Hr := Lib.hid hr
    clear hgk
    by_cases hlt : j < l.length + 1
    · have c1 : wr.cell? ⟨g, j, none⟩ = some (.int .u8 (m[j].toNat : Int)) := by
        have h := bytes_cell hr.rd j (by omega)
        simpa using h
      have f1 := hr.frozen j
      have i1 : (0 : Int) ≤ (j : Int) := Int.natCast_nonneg _
      have i2 : (j : Int) < (l.length : Int) + 1 := by omega
      clear hr
      go_wp2_with fail
      go_roundg (gk - 1)
      case measure => have := Hgk.out; omega
      case rel =>
        refine ⟨j + 1, m.set j 98, by omega, by have := Hgk.out; omega, by go_num, by rw [List.length_set]; exact Hm.out, ?_, hf.setCell (p := ⟨g, j, none⟩) (fun _ => rfl) _⟩
        have h := Hr.out.store (j := j) (by have := Hm.out; omega) 98
        rw [List.length_set]
        exact h
    · clear hr hm
      go_wp2_with fail
      go_end0
      exact ⟨rfl, f1.trans hf (fun k hk e => by subst e; exact hgb hk)⟩
end Go.Proofs.Ytccknjnbpccmhaa
