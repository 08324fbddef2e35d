/- DiskKeeps holds: the walk joined to the statement. -/
import Derived.Test.YtjcjajpndchfdaaLK
import Derived.Test.YtjcjajpndchfdaaE
import Derived.Test.YtjcjajpndchfdaaRows
namespace Go.Proofs.Ytjcjajpndchfdaa
open Go.ChangeShapes Go.WideShapes Go.ChangeAt Go.RowKit

set_option maxRecDepth 100000 in
theorem keeps_lifted (os : Os) (started : os.Started) (H : Type) (enc : TypeId × Value → H) :
    ReturnsInHanded {} Try.checked os 3 .any (Rows.diskKeepsSpec.pre6 enc Try.prog Try.f3 Rows.diskKeepsRow.domain false) (Rows.diskKeepsSpec.post enc Try.prog Try.f3 false true false false) := by
  refine returnsInHanded_of_change_sized (C := Try.checked) Try.owned started (by kernel_rfl) Try.func3
    (ChangeSpec.witness6 (enc := enc) (C := Try.checked) false ⟨#[], #[.slice none 0 0, .int .i64 0, .int .i64 0, .int .u8 0], []⟩ 8 (by kernel_rfl) (by kernel_rfl) (by kernel_rfl) (by kernel_rfl)) ?_
  intro W base args ds gs before hval0 hW _ hsz0 _
  have hsz : (DataW.weightsEach Try.prog (Try.f3.params.toList ++ Rows.diskKeepsSpec.plain.varTypes Try.prog) (ds ++ gs)).all (· ≤ reachBytes) = true := hsz0
  clear hsz0
  have hval : ∀ (j : Nat) t v, Try.f3.params[j]? = some t → args[j]? = some v → Value.okWide Try.prog W .any base t v := hval0
  have hW' := hW
  obtain ⟨p, q, hA0, hV, rfl, _, _⟩ := hW
  have hA : DataW.TrodAll enc Try.prog W 0 (fun _ => true) true Try.f3.params.toList args.toList ds p := hA0
  have hpar : Try.f3.params = #[22, 3, 3, 5] := by kernel_rfl
  rw [hpar] at hA hval hsz
  obtain ⟨v0, v1, v2, v3, d0, d1, d2, d3, p0, p1, p2, p3, rfl, rfl, rfl, h0, h1, h2, h3⟩ := trodAll_four hA
  obtain ⟨rfl, rfl⟩ := trodVars_none hV
  obtain ⟨synced, rfl, rfl, rfl, w1⟩ := open_int Try.underlying3 (hval 1 3 v1 rfl rfl) h1
  obtain ⟨draw, rfl, rfl, rfl, w2⟩ := open_int Try.underlying3 (hval 2 3 v2 rfl rfl) h2
  obtain ⟨tear, rfl, rfl, rfl, w3⟩ := open_int Try.underlying5 (hval 3 5 v3 rfl rfl) h3
  obtain ⟨vs, L, hR, hL⟩ := open_rows_arg (hval 0 22 v0 rfl rfl) h0
  have hrows := hL _ _ 0 rfl rfl hsz
  clear hA0 hval0 hsz
  simp only [List.append_nil] at hW' h0
  have hlt : ∀ x ∈ p0, x.block < W.heap.size := fun x hx => by simpa using hW'.lt x hx
  have q1 : -9223372036854775808 ≤ synced ∧ synced ≤ 9223372036854775807 := by simpa [Lit.wf, IntKind.min, IntKind.max, IntKind.signed, IntKind.bits] using w1
  have q2 : -9223372036854775808 ≤ draw ∧ draw ≤ 9223372036854775807 := by simpa [Lit.wf, IntKind.min, IntKind.max, IntKind.signed, IntKind.bits] using w2
  have e3 : Value.int .u8 tear = .int .u8 ((byteOf tear).toNat : Int) := (bc_byteOf w3).symm
  rw [e3]
  refine (keeps_walk W v0 vs L hR synced q1.1 q1.2 draw q2.1 q2.2 (byteOf tear) hrows).mono fun e W' ⟨he, hg⟩ => ?_
  subst he
  rw [← e3]
  refine ⟨_, rfl, _, _, _, [], p0, [], hW', trodAll_mk1 (trod_bool_mk (P := Try.prog) Try.underlying4 true), ?_, rfl, (Frm.below hg).frame _, fun h => by cases h⟩
  have hh := trodAll_mk4 (Below.trod Try.laid (by kernel_rfl) (of_decide_eq_true (by kernel_rfl)) h0 (Frm.below hg) hlt) (shut_int Try.underlying3 w1) (shut_int Try.underlying3 w2) (shut_int Try.underlying5 w3)
  simp only [List.append_nil] at hh
  exact hh

theorem keeps_holds : Rows.DiskKeepsSaid :=
  OpenClaim.holds_of_wide 3 Try.f3 rfl rfl rfl rfl rfl rfl rfl ⟨rfl, rfl, rfl, rfl, rfl⟩ rfl rfl rfl rfl rfl (by kernel_rfl) Try.func3 (by kernel_rfl)
    (of_decide_eq_true (by kernel_rfl)) (by unfold Func.isWrapper; first | (rw [if_pos (by decide +kernel)]; kernel_rfl) | (rw [if_neg (by decide +kernel)]; exact ⟨rfl, rfl⟩))
    (fun os started H enc _ => keeps_lifted os started H enc)

#print axioms keeps_holds
end Go.Proofs.Ytjcjajpndchfdaa
