/- NetPlays holds: the walk joined to the statement. -/
import Derived.Test.YtccknjnbpccmhaaP1
import Derived.Test.YtccknjnbpccmhaaP2
import Derived.Test.YtccknjnbpccmhaaRows
namespace Go.Proofs.Ytccknjnbpccmhaa
open Go.ChangeShapes Go.WideShapes Go.ChangeAt Go.RowKit

theorem net_walk (w : World) (v : Value) (rows : List Sr) (hR : StepsAt w v rows) (hrows : ∀ r ∈ rows, r.s.data.length ≤ 140737488351232) : Calls Try.prog 3 #[v] w (BoolPost w true) := by
  by_cases h : rows.length ≤ 200
  · exact net_walk_a w v rows hR hrows h
  · exact net_walk_b w v rows hR hrows (by omega)

theorem Arg.owned : ownKnob Try.prog.godebug = none := by kernel_rfl

set_option maxRecDepth 100000 in
theorem net_lifted (os : Os) (started : os.Started) (H : Type) (enc : TypeId × Value → H) :
    ReturnsInHanded {} Try.checked os 3 .any (Rows.netPlaysSpec.pre6 enc Try.prog Try.f3 Rows.netPlaysRow.domain false) (Rows.netPlaysSpec.post enc Try.prog Try.f3 false true false false) := by
  refine returnsInHanded_of_change_sized (C := Try.checked) Arg.owned started (by kernel_rfl) Try.func3
    (ChangeSpec.witness6 (enc := enc) (C := Try.checked) false ⟨#[], #[.slice none 0 0], []⟩ 8 (by kernel_rfl) (by kernel_rfl) (by kernel_rfl) (by kernel_rfl)) ?_
  intro W base args ds gs before hval0 hW _ hsz0 _
  have hsz : (DataW.weightsEach Try.prog (Try.f3.params.toList ++ Rows.netPlaysSpec.plain.varTypes Try.prog) (ds ++ gs)).all (· ≤ reachBytes) = true := hsz0
  clear hsz0
  have hval : ∀ (j : Nat) t v, Try.f3.params[j]? = some t → args[j]? = some v → Value.okWide Try.prog W .any base t v := hval0
  have hW' := hW
  obtain ⟨p, q, hA0, hV, rfl, _, _⟩ := hW
  have hA : DataW.TrodAll enc Try.prog W 0 (fun _ => true) true Try.f3.params.toList args.toList ds p := hA0
  have hpar : Try.f3.params = #[22] := by kernel_rfl
  rw [hpar] at hA hval hsz
  obtain ⟨v0, d0, rfl, rfl, h0⟩ := trodAll_one hA
  obtain ⟨rfl, rfl⟩ := trodVars_none hV
  obtain ⟨rows, hR, hL⟩ := open_steps_arg (hval 0 22 v0 rfl rfl) h0
  have hrows := hL _ _ 0 rfl rfl hsz
  clear hA0 hval0 hsz
  simp only [List.append_nil] at hW'
  have hlt : ∀ x ∈ p, x.block < W.heap.size := fun x hx => by simpa using hW'.lt x hx
  refine (net_walk W v0 rows hR hrows).mono fun e W' ⟨he, hg⟩ => ?_
  subst he
  refine ⟨_, rfl, _, _, _, [], p, [], hW', trodAll_mk1 (Arg.trod_bool_mk (P := Try.prog) Try.underlying4 true), ?_, rfl, (Frm.below hg).frame _, fun h => by cases h⟩
  exact trodAll_mk1 (Below.trod Arg.laid (by kernel_rfl) (of_decide_eq_true (by kernel_rfl)) h0 (Frm.below hg) hlt)

theorem net_holds : Rows.NetPlaysSaid :=
  OpenClaim.holds_of_wide 3 Try.f3 rfl rfl rfl rfl rfl rfl rfl ⟨rfl, rfl, rfl, rfl, rfl⟩ rfl rfl rfl rfl rfl (by kernel_rfl) Try.func3 (by kernel_rfl)
    (of_decide_eq_true (by kernel_rfl)) (by unfold Func.isWrapper; first | (rw [if_pos (by decide +kernel)]; kernel_rfl) | (rw [if_neg (by decide +kernel)]; exact ⟨rfl, rfl⟩))
    (fun os started H enc _ => net_lifted os started H enc)

#print axioms net_holds
end Go.Proofs.Ytccknjnbpccmhaa
