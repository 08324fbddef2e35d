/- DiskNames holds: the walk joined to the statement. -/
import Derived.Test.YtjcjajpndchfdaaLM
import Derived.Test.YtjcjajpndchfdaaE
import Derived.Test.YtjcjajpndchfdaaRows
namespace Go.Proofs.Ytjcjajpndchfdaa
open Go.ChangeShapes Go.WideShapes Go.ChangeAt Go.RowKit

set_option maxRecDepth 100000 in
theorem names_lifted (os : Os) (started : os.Started) (H : Type) (enc : TypeId × Value → H) :
    ReturnsInHanded {} Try.checked os 6 .any (Rows.diskNamesSpec.pre6 enc Try.prog Try.f6 Rows.diskNamesRow.domain false) (Rows.diskNamesSpec.post enc Try.prog Try.f6 false true false false) := by
  refine returnsInHanded_of_change_sized (C := Try.checked) Try.owned started (by kernel_rfl) Try.func6
    (ChangeSpec.witness6 (enc := enc) (C := Try.checked) false ⟨#[], #[.slice none 0 0, .slice none 0 0, .slice none 0 0, .bool false], []⟩ 8 (by kernel_rfl) (by kernel_rfl) (by kernel_rfl) (by kernel_rfl)) ?_
  intro W base args ds gs before hval0 hW _ hsz0 _
  have hsz : (DataW.weightsEach Try.prog (Try.f6.params.toList ++ Rows.diskNamesSpec.plain.varTypes Try.prog) (ds ++ gs)).all (· ≤ reachBytes) = true := hsz0
  clear hsz0
  have hval : ∀ (j : Nat) t v, Try.f6.params[j]? = some t → args[j]? = some v → Value.okWide Try.prog W .any base t v := hval0
  have hW' := hW
  obtain ⟨p, q, hA0, hV, rfl, _, _⟩ := hW
  have hA : DataW.TrodAll enc Try.prog W 0 (fun _ => true) true Try.f6.params.toList args.toList ds p := hA0
  have hpar : Try.f6.params = #[23, 23, 23, 4] := by kernel_rfl
  rw [hpar] at hA hval hsz
  obtain ⟨v0, v1, v2, v3, d0, d1, d2, d3, p0, p1, p2, p3, rfl, rfl, rfl, h0, h1, h2, h3⟩ := trodAll_four hA
  obtain ⟨rfl, rfl⟩ := trodVars_none hV
  obtain ⟨l0, hB0, hL0⟩ := open_bytes_arg (hval 0 23 v0 rfl rfl) h0
  obtain ⟨l1, hB1, hL1⟩ := open_bytes_arg (hval 1 23 v1 rfl rfl) h1
  obtain ⟨l2, hB2, hL2⟩ := open_bytes_arg (hval 2 23 v2 rfl rfl) h2
  obtain ⟨b, rfl, rfl, rfl⟩ := open_bool Try.underlying4 (hval 3 4 v3 rfl rfl) h3
  have n0 := hL0 _ _ 0 rfl rfl hsz
  have n1 := hL1 _ _ 1 rfl rfl hsz
  have n2 := hL2 _ _ 2 rfl rfl hsz
  clear hA0 hval0 hsz
  simp only [List.append_nil, List.nil_append] at hW'
  have hlt : ∀ x ∈ p0 ++ p1 ++ p2, x.block < W.heap.size := fun x hx => by simpa using hW'.lt x hx
  refine (names_walk W v0 v1 v2 l0 l1 l2 hB0 hB1 hB2 n0 n1 n2 b).mono fun e W' ⟨he, hg⟩ => ?_
  subst he
  refine ⟨_, rfl, _, _, _, [], p0 ++ p1 ++ p2, [], hW', trodAll_mk1 (trod_bool_mk (P := Try.prog) Try.underlying4 true), ?_, rfl, (Frm.below hg).frame _, fun h => by cases h⟩
  have hh := trodAll_mk4 (Below.trod Try.laid (by kernel_rfl) (of_decide_eq_true (by kernel_rfl)) h0 (Frm.below hg) (fun x hx => hlt x (by simp [hx]))) (Below.trod Try.laid (by kernel_rfl) (of_decide_eq_true (by kernel_rfl)) h1 (Frm.below hg) (fun x hx => hlt x (by simp [hx]))) (Below.trod Try.laid (by kernel_rfl) (of_decide_eq_true (by kernel_rfl)) h2 (Frm.below hg) (fun x hx => hlt x (by simp [hx]))) (trod_bool_mk (P := Try.prog) Try.underlying4 b)
  simp only [List.nil_append, List.append_nil] at hh
  rw [List.append_assoc]
  exact hh

theorem names_holds : Rows.DiskNamesSaid :=
  OpenClaim.holds_of_wide 6 Try.f6 rfl rfl rfl rfl rfl rfl rfl ⟨rfl, rfl, rfl, rfl, rfl⟩ rfl rfl rfl rfl rfl (by kernel_rfl) Try.func6 (by kernel_rfl)
    (of_decide_eq_true (by kernel_rfl)) (by unfold Func.isWrapper; first | (rw [if_pos (by decide +kernel)]; kernel_rfl) | (rw [if_neg (by decide +kernel)]; exact ⟨rfl, rfl⟩))
    (fun os started H enc _ => names_lifted os started H enc)

#print axioms names_holds
end Go.Proofs.Ytjcjajpndchfdaa
