/- DiskOfNothing holds: the walk joined to the statement. -/
import Derived.Test.YtjcjajpndchfdaaLN
import Derived.Test.YtjcjajpndchfdaaE
import Derived.Test.YtjcjajpndchfdaaRows
namespace Go.Proofs.Ytjcjajpndchfdaa
open Go.ChangeShapes Go.WideShapes Go.ChangeAt Go.RowKit

set_option maxRecDepth 100000 in
theorem nothing_lifted (os : Os) (started : os.Started) (H : Type) (enc : TypeId × Value → H) :
    ReturnsInHanded {} Try.checked os 8 .any (Rows.diskOfNothingSpec.pre6 enc Try.prog Try.f8 Rows.diskOfNothingRow.domain false) (Rows.diskOfNothingSpec.post enc Try.prog Try.f8 false true false false) := by
  refine returnsInHanded_of_change_sized (C := Try.checked) Try.owned started (by kernel_rfl) Try.func8
    (ChangeSpec.witness6 (enc := enc) (C := Try.checked) false ⟨#[], #[.string ⟨#[]⟩, .slice none 0 0, .int .i64 0], []⟩ 8 (by kernel_rfl) (by kernel_rfl) (by kernel_rfl) (by kernel_rfl)) ?_
  intro W base args ds gs before hval0 hW _ hsz0 _
  have hsz : (DataW.weightsEach Try.prog (Try.f8.params.toList ++ Rows.diskOfNothingSpec.plain.varTypes Try.prog) (ds ++ gs)).all (· ≤ reachBytes) = true := hsz0
  clear hsz0
  have hval : ∀ (j : Nat) t v, Try.f8.params[j]? = some t → args[j]? = some v → Value.okWide Try.prog W .any base t v := hval0
  have hW' := hW
  obtain ⟨p, q, hA0, hV, rfl, _, _⟩ := hW
  have hA : DataW.TrodAll enc Try.prog W 0 (fun _ => true) true Try.f8.params.toList args.toList ds p := hA0
  have hpar : Try.f8.params = #[9, 23, 3] := by kernel_rfl
  rw [hpar] at hA hval hsz
  obtain ⟨v0, v1, v2, d0, d1, d2, p0, p1, p2, rfl, rfl, rfl, h0, h1, h2⟩ := trodAll_three hA
  obtain ⟨rfl, rfl⟩ := trodVars_none hV
  obtain ⟨s, rfl, rfl, rfl, hs⟩ := Go.ChangeMaps.open_string Try.underlying9 (hval 0 9 v0 rfl rfl) h0
  obtain ⟨l, hB, hL⟩ := open_bytes_arg (hval 1 23 v1 rfl rfl) h1
  obtain ⟨n, rfl, rfl, rfl, w0⟩ := open_int Try.underlying3 (hval 2 3 v2 rfl rfl) h2
  have hl := hL _ _ 1 rfl rfl hsz
  have hsz2 := sized_string hsz (j := 0) rfl rfl
  have hs2 : s.size ≤ 140737488351232 := (show s.size ≤ reachBytes by simpa using hsz2)
  clear hA0 hval0 hsz hsz2
  simp only [List.append_nil, List.nil_append] at hW'
  have hlt : ∀ x ∈ p1, x.block < W.heap.size := fun x hx => by simpa using hW'.lt x hx
  refine (nothing_walk W s hs2 v1 l hB hl n).mono fun e W' ⟨he, hg⟩ => ?_
  subst he
  refine ⟨_, rfl, _, _, _, [], p1, [], hW', trodAll_mk1 (trod_bool_mk (P := Try.prog) Try.underlying4 true), ?_, rfl, (Frm.below hg).frame _, fun h => by cases h⟩
  have hh := trodAll_mk3 (Go.ChangeMaps.shut_string Try.underlying9 hs) (Below.trod Try.laid (by kernel_rfl) (of_decide_eq_true (by kernel_rfl)) h1 (Frm.below hg) hlt) (shut_int Try.underlying3 w0)
  simp only [List.nil_append, List.append_nil] at hh
  exact hh

theorem nothing_holds : Rows.DiskOfNothingSaid :=
  OpenClaim.holds_of_wide 8 Try.f8 rfl rfl rfl rfl rfl rfl rfl ⟨rfl, rfl, rfl, rfl, rfl⟩ rfl rfl rfl rfl rfl (by kernel_rfl) Try.func8 (by kernel_rfl)
    (of_decide_eq_true (by kernel_rfl)) (by unfold Func.isWrapper; first | (rw [if_pos (by decide +kernel)]; kernel_rfl) | (rw [if_neg (by decide +kernel)]; exact ⟨rfl, rfl⟩))
    (fun os started H enc _ => nothing_lifted os started H enc)

#print axioms nothing_holds
end Go.Proofs.Ytjcjajpndchfdaa
