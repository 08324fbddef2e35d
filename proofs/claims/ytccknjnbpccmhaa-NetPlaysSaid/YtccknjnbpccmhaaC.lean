/- bytes.Clone. -/
import Derived.Test.YtccknjnbpccmhaaB
namespace Go.Proofs.Ytccknjnbpccmhaa
open Go.RowKit

def Fresh (w : World) (v : Value) : Prop := ∀ k, v.ownBlock = some k → w.heap.size ≤ k

set_option maxHeartbeats 400000 in
theorem bclone_spec (w : World) (v : Value) (l : List UInt8) (h : Bytes w v l) (hl : l.length ≤ 140737488355328) :
    Calls Try.prog 31 #[v] w fun e w' => ∃ v', e = .returned v' ∧ OwnB w' v' l ∧ Grew w w' ∧ Fresh w v' := by
  have qT : ∀ (w : World) (a : Option Addr) (n c n' c' : Nat), (binOp .eql 23 (.slice a n c) (.slice none n' c')).run Try.prog w = .ok (.bool a.isNone) w := fun w a n c n' c' => Lib.run_eql_slice_nil w _ _ a n c n' c' Try.underlying23
  obtain ⟨a, cap, rfl, hc1, hc2, hc3⟩ := h.shape
  cases a with
  | none =>
    have : l = [] := by
      rcases h.cases with ⟨h1, h2⟩ | ⟨_, _, h1, _⟩
      · exact List.eq_nil_of_length_eq_zero h2
      · cases h1
    subst this
    go_enter Try.func31, Try.ntmps31
    go_wp2
    go_ret
    exact ⟨_, rfl, Own.nil w 5 1, Frm.refl _ w, fun k hk => by cases hk⟩
  | some ad =>
    go_enter Try.func31, Try.ntmps31
    go_wp2_with (at_builtin; go_loud (refine wpList_appendB (.slice (some ⟨w.heap.size, 0, none⟩) 0 0) (.slice (some ad) l.length cap) [] l rfl _ _ rfl rfl rfl (Own.made w 5 1) (h.keepG (grew_alloc w _)) (by simpa using hl) ?_; intro v' w' h1 h2 h3 h4))
    go_ret
    refine ⟨v', rfl, by simpa using h1, ?_, ?_⟩
    · exact (grew_alloc w _).trans h2 |>.mono (fun k hk hs => by simp [Value.ownBlock] at hs; omega)
    · intro k hk
      rcases h3 with h3 | h3 <;> rw [h3] at hk <;> simp [Value.ownBlock] at hk <;> omega
end Go.Proofs.Ytccknjnbpccmhaa
