/- The steps of a script, in memory; the argument opened. -/
import Derived.Test.YtccknjnbpccmhaaEA
import Derived.Test.YtccknjnbpccmhaaM1
import Derived.Deep.Slices
namespace Go.Proofs.Ytccknjnbpccmhaa
open Go.ChangeShapes Go.WideShapes Go.RowKit Go.Deep

/-- a step -/
structure NS where
  kind : Int
  n : Int
  frm : Int
  to : Int
  data : List UInt8
structure Sr where
  dv : Value
  s : NS
def Sr.cells (r : Sr) : List Value := [.int .i64 r.s.kind, .int .i64 r.s.n, .int .i64 r.s.frm, .int .i64 r.s.to, r.dv]

structure StepsAt (w : World) (v : Value) (rows : List Sr) : Prop where
  rd : Rd w 27 5 v rows.length (rows.flatMap Sr.cells)
  row : ∀ r ∈ rows, Bytes w r.dv r.s.data
theorem StepsAt.keepG {w w' : World} {v : Value} {rows : List Sr} (h : StepsAt w v rows) (g : Grew w w') : StepsAt w' v rows := ⟨h.rd.keepG g, fun r hr => (h.row r hr).keepG g⟩
theorem StepsAt.cells {w : World} {g off cap : Nat} {rows : List Sr} (h : StepsAt w (.slice (some ⟨g, off, none⟩) rows.length cap) rows) {i : Nat} (hi : i < rows.length) :
    w.cell? ⟨g, off + i * 5, none⟩ = some (.int .i64 rows[i].s.kind) ∧ w.cell? ⟨g, off + i * 5 + 1, none⟩ = some (.int .i64 rows[i].s.n) ∧ w.cell? ⟨g, off + i * 5 + 2, none⟩ = some (.int .i64 rows[i].s.frm) ∧
      w.cell? ⟨g, off + i * 5 + 3, none⟩ = some (.int .i64 rows[i].s.to) ∧ w.cell? ⟨g, off + i * 5 + 4, none⟩ = some rows[i].dv := by
  have hc : ∀ c (hc : c < 5), w.cell? ⟨g, off + i * 5 + c, none⟩ = rows[i].cells[c]? := fun c hc => by
    have h1 := Arg.flat_at Sr.cells 5 (fun _ => rfl) rows i c hi hc
    have hlt : c < rows[i].cells.length := hc
    rw [List.getElem?_eq_getElem hlt] at h1 ⊢
    have h2 := h.rd.cell rfl (i * 5 + c) h1
    rw [show off + i * 5 + c = off + (i * 5 + c) by omega]
    exact h2
  exact ⟨hc 0 (by omega), hc 1 (by omega), hc 2 (by omega), hc 3 (by omega), hc 4 (by omega)⟩

section
variable {H : Type} {enc : TypeId × Value → H}

theorem cellsStep : Try.prog.cellsOf 27 = 5 := by kernel_rfl
theorem cellsMsg : Try.prog.cellsOf 25 = 3 := by kernel_rfl
theorem cellsInt : Try.prog.cellsOf 3 = 1 := by kernel_rfl
theorem cellsBytes : Try.prog.cellsOf 23 = 1 := by kernel_rfl

theorem step_cells {w : World} {fuel : Nat} {cs : List Value} {x : DataW H × List MemPlace} (h : DataW.trod enc Try.prog w 0 (fun _ => true) true fuel 27 cs = some x) :
    ∃ r : Sr, cs = r.cells ∧ Bytes w r.dv r.s.data ∧ ((∀ n ∈ x.1.weights Try.prog 27, n ≤ reachBytes) → r.s.data.length ≤ 140737488351232) := by
  obtain ⟨xs, k, _, rfl, hlen, hxl, hf⟩ := DataW.trod_struct Try.underlying27 h
  rw [cellsStep] at hlen
  match xs, hxl, cs, hlen with
  | [y0, y1, y2], _, [v0, v1, v2, v3, v4], _ =>
    have g0 := hf 0 _ rfl
    have g1 := hf 1 _ rfl
    have g2 := hf 2 _ rfl
    simp only [List.getElem?_cons_zero, List.getElem?_cons_succ] at g0 g1 g2
    obtain ⟨a0, e0, _, _⟩ := DataW.trod_int Try.underlying3 g0
    obtain ⟨a1, e1, _, _⟩ := DataW.trod_int Try.underlying3 g1
    obtain ⟨zs, k2, _, hy2, _, hzl, hf2⟩ := DataW.trod_struct Try.underlying25 g2
    match zs, hzl with
    | [z0, z1, z2], _ =>
      have q0 := hf2 0 _ rfl
      have q1 := hf2 1 _ rfl
      have q2 := hf2 2 _ rfl
      simp only [List.getElem?_cons_zero, List.getElem?_cons_succ] at q0 q1 q2
      obtain ⟨a2, e2, _, _⟩ := DataW.trod_int Try.underlying3 q0
      obtain ⟨a3, e3, _, _⟩ := DataW.trod_int Try.underlying3 q1
      obtain ⟨v, l, e4, hB, hw⟩ := Arg.bytes_cells q2
      cases e0; cases e1; cases e2; cases e3; cases e4
      refine ⟨⟨_, ⟨a0, a1, a2, a3, l⟩⟩, rfl, hB, fun hn => hw fun n hn' => hn n ?_⟩
      subst hy2
      simp only [DataW.weights, Try.underlying27, Try.underlying25, List.map_cons, List.map_nil, DataW.weightsEach, List.append_nil, List.mem_append]
      exact .inr (.inr (.inr (.inr hn')))

set_option maxRecDepth 100000 in
theorem open_steps_arg {W : World} {b0 : Nat} {v : Value} {d : DataW H} {p : List MemPlace} (hval : Value.okWide Try.prog W .any b0 22 v) (h : DataW.Trod enc Try.prog W 0 (fun _ => true) true 22 v d p) :
    ∃ rows, StepsAt W v rows ∧ ∀ (ts : List TypeId) (ds : List (DataW H)) (j : Nat), ts[j]? = some 22 → ds[j]? = some d → (DataW.weightsEach Try.prog ts ds).all (· ≤ reachBytes) = true → ∀ r ∈ rows, r.s.data.length ≤ 140737488351232 := by
  obtain ⟨a0, len0, cap0, rfl⟩ := okWide_slice Try.underlying22 hval
  obtain ⟨fuel, hf⟩ := h
  rcases open_slice Try.underlying22 hf with ⟨hcs, hx⟩ | ⟨a, len, cap, m, n, D, Pl, hcs, _, hl, hm, hmm, hx, hel⟩
  · simp [Value.cells] at hcs
    obtain ⟨rfl, rfl, rfl⟩ := hcs
    exact ⟨[], ⟨Rd.nil W _ 5, fun r hr => by cases hr⟩, fun _ _ _ _ _ _ r hr => by cases hr⟩
  · simp [Value.cells] at hcs
    obtain ⟨rfl, rfl, rfl⟩ := hcs
    simp only [if_true] at hmm
    subst hmm
    simp only [Prod.mk.injEq] at hx
    obtain ⟨rfl, rfl⟩ := hx
    have each : ∀ i, i < m → ∃ r : Sr, W.cells? 0 (a.add (i * 5)) 5 = some r.cells ∧ Bytes W r.dv r.s.data ∧ ((∀ n ∈ (D i).weights Try.prog 27, n ≤ reachBytes) → r.s.data.length ≤ 140737488351232) := fun i hi => by
      obtain ⟨cs', h1, h2⟩ := hel i hi
      rw [cellsStep] at h1
      obtain ⟨r, rfl, hB, hw⟩ := step_cells h2
      exact ⟨r, h1, hB, hw⟩
    have : Inhabited Sr := ⟨⟨undef, ⟨0, 0, 0, 0, []⟩⟩⟩
    obtain ⟨q, hq⟩ := choose_lt each
    refine ⟨(List.range len0).map q, ⟨?_, ?_⟩, ?_⟩
    · rw [List.length_map, List.length_range]
      refine Arg.rd_of_cells _ 5 (by rw [Arg.flat_length Sr.cells 5 (fun _ => rfl)]; simp) hl hm (by omega) (fun j hj => ?_)
      have hj5 : j = j / 5 * 5 + j % 5 := by omega
      have hlt : j / 5 < len0 := by omega
      have hc := (World.cells?_some (hq (j / 5) (by omega)).1).2.2 (j % 5) (Nat.mod_lt _ (by omega))
      rw [add_add, ← hj5] at hc
      rw [hc]
      have hfl := Arg.flat_at Sr.cells 5 (fun _ => rfl) ((List.range len0).map q) (j / 5) (j % 5) (by simpa using hlt) (Nat.mod_lt _ (by omega))
      rw [← hj5] at hfl
      simp only [List.getElem_map, List.getElem_range] at hfl
      rw [← hfl]
      exact List.getElem?_eq_getElem _
    · intro r hr
      obtain ⟨i, hi, rfl⟩ := List.mem_map.1 hr
      exact (hq i (by have := List.mem_range.1 hi; omega)).2.1
    · intro ts ds j ht hd hsz r hr
      obtain ⟨i, hi, rfl⟩ := List.mem_map.1 hr
      have hi' := List.mem_range.1 hi
      refine (hq i (by omega)).2.2 (fun n hn => ?_)
      have hin : n ∈ DataW.weightsEach Try.prog ts ds := by
        refine DataW.weights_mem_each ht hd _ ?_
        simp only [DataW.weights, Try.underlying22, List.mem_cons, List.mem_append]
        exact .inr (.inl (Arg.weights_mem_all (List.mem_map.2 ⟨i, hi, rfl⟩) _ hn))
      exact of_decide_eq_true (List.all_eq_true.1 hsz _ hin)
end
end Go.Proofs.Ytccknjnbpccmhaa
