/- Used. -/
import Derived.Test.YtjcjajpndchfdaaM
namespace Go.Proofs.Ytjcjajpndchfdaa
open Go.RowKit

def usedR (rows : List Rw) : Nat := (rows.map fun r => r.f.data.length).sum

theorem used_rows (rows : List Rw) : MD.used (rows.map (fun r => (r.name, r.f))) = usedR rows := by
  simp [MD.used, usedR, Function.comp_def]

theorem sum_perm_mid (pre post : List Rw) (r : Rw) : usedR (pre ++ r :: post) = r.f.data.length + usedR (pre ++ post) := by
  simp [usedR]; omega

theorem FileOk.keep {S : Nat → Prop} {w w' : World} {r : Rw} (h : FileOk w r) (f : Frm S w w') (hS : ∀ k ∈ r.blocks, ¬ S k) : FileOk w' r := by
  obtain ⟨h1, h2⟩ := h
  refine ⟨f.keep h1 (hS _ (by simp [Rw.blocks])), h2.keep f (fun k hk => hS k ?_)⟩
  simp [Rw.blocks, hk]

theorem FileOk.keepG {w w' : World} {r : Rw} (h : FileOk w r) (f : Grew w w') : FileOk w' r := h.keep f (fun _ _ f => f)

theorem DiskAt.keep {T : Nat → Prop} {w w' : World} {bd : Nat} {D : MD} {S : List Nat} (h : DiskAt w bd D S) (f : Frm T w w') (hS : ∀ k ∈ S, ¬ T k) : DiskAt w' bd D S := by
  obtain ⟨bm, fused, left, rows, h1, h2, h3, h4, h5, rfl, h7⟩ := h
  refine ⟨bm, fused, left, rows, f.keep h1 (hS _ (by simp)), h2, h3.keep f (hS _ (by simp)), fun r hr => (h4 r hr).keep f (fun k hk => hS k ?_), h5, rfl, h7⟩
  simp only [List.mem_cons, List.mem_flatMap]
  exact .inr (.inr ⟨r, hr, hk⟩)
theorem DiskAt.keepG {w w' : World} {bd : Nat} {D : MD} {S : List Nat} (h : DiskAt w bd D S) (f : Grew w w') : DiskAt w' bd D S := h.keep f (fun _ _ f => f)

theorem DiskAt.lt {w : World} {bd : Nat} {D : MD} {S : List Nat} (h : DiskAt w bd D S) : ∀ k ∈ S, k < w.heap.size := by
  obtain ⟨bm, fused, left, rows, h1, h2, h3, h4, h5, rfl, h7⟩ := h
  intro k hk
  simp only [List.mem_cons, List.mem_flatMap] at hk
  rcases hk with rfl | rfl | ⟨r, hr, hk⟩
  · exact lt_of_heap h1
  · exact h3.lt
  · have := h4 r hr
    simp only [Rw.blocks, List.mem_cons, Option.mem_toList] at hk
    rcases hk with rfl | hk
    · exact lt_of_heap this.1
    · exact this.2.lt k hk

/-- The file that a key's pointer names. -/
theorem row_of_kv {rows : List Rw} {pre post : List (Value × Value)} {x y : Value} (h : rows.map Rw.kv = pre ++ (x, y) :: post) :
    ∃ p r q, rows = p ++ r :: q ∧ pre = p.map Rw.kv ∧ post = q.map Rw.kv ∧ x = .string r.name ∧ y = .pointer (some ⟨r.bf, 0, none⟩) := by
  obtain ⟨p, q', rfl, rfl, h3⟩ := List.map_eq_append_iff.1 h
  obtain ⟨r, q, rfl, h4, rfl⟩ := List.map_eq_cons_iff.1 h3
  cases h4
  exact ⟨p, r, q, rfl, rfl, rfl, rfl, rfl⟩

theorem wpList_nextRow {w : World} {ops : Array Oper} {rest : List Oper} {o : Oper} {a : Act} {Q : Exit → Act → World → Prop}
    (hg : o.guard = none) (it : Operand) (hop : o.op = Op.next it false) (i bm : Nat) (rows left : List Rw)
    (hit : a.eval it = .pointer (some ⟨i, 0, none⟩)) (h : RangeB Try.prog 9 w i bm (rows.map Rw.kv) (left.map Rw.kv))
    (hDone : left = [] → wpList Try.prog ops Q rest (a.put o.dst (.tuple #[.bool false])) w)
    (hMore : ∀ p r q w', left = p ++ r :: q → Frm (fun k => k = i) w w' → w'.heap.size = w.heap.size → RangeB Try.prog 9 w' i bm (rows.map Rw.kv) ((p ++ q).map Rw.kv) →
      (Instr.entry (.pointer (some ⟨i, 0, none⟩))).run Try.prog w' = .ok (.tuple #[.string r.name, .pointer (some ⟨r.bf, 0, none⟩)]) w' → wpList Try.prog ops Q rest (a.put o.dst (.tuple #[.bool true, .string r.name, .pointer (some ⟨r.bf, 0, none⟩)])) w') : wpList Try.prog ops Q (o :: rest) a w := by
  refine wpList_next hg it hop i bm _ _ hit h (fun h0 => hDone (by simpa using h0)) ?_
  intro pre x y post w' hsp _ f z r' hen
  obtain ⟨p, r, q, hl, rfl, rfl, rfl, rfl⟩ := row_of_kv hsp
  exact hMore p r q w' hl f z (by rw [List.map_append]; exact r') hen

set_option maxHeartbeats 1000000 in
theorem dUsed_spec (w : World) (bd : Nat) (D : MD) (S : List Nat) (hD : DiskAt w bd D S) :
    Calls Try.prog 15 #[.pointer (some ⟨bd, 0, none⟩)] w fun e w' => e = .returned (.int .i64 (MD.used D.files)) ∧ Grew w w' := by
  obtain ⟨bm, fused, left, rows, h1, h2, h3, h4, h5, rfl, hnd, hok⟩ := hD
  have hroom := hok.room
  have hused := hok.used
  rw [h5, used_rows] at hused
  rw [h5, used_rows]
  have hU : usedR rows ≤ 1073741824 := by omega
  have c1 : w.cell? ⟨bd, 1, none⟩ = some (.map (some bm)) := by rw [cell_of h1]; rfl
  go_enter Try.func15, Try.ntmps15
  go_wp2_with (at_range; refine wpList_range rfl _ 58 65 rfl Try.underlying58 bm _ rfl h3 ?_; intro w1 g1 z1 r1)
  go_frame
  go_loopg [3] rows.length (fun gk n wr => ∃ left : List Rw, left.length = gk ∧ RangeB Try.prog 9 wr w.heap.size bm (rows.map Rw.kv) (left.map Rw.kv) ∧ (∀ r ∈ left, r ∈ rows) ∧ Grew w wr ∧ usedR left ≤ usedR rows ∧ n = .int .i64 ((usedR rows - usedR left : Nat) : Int))
  case atStart => exact ⟨rows, rfl, r1, fun _ h => h, g1, Nat.le_refl _, by simp⟩
  case round =>
    obtain ⟨left, hl, hr, hsub, hg, hle, rfl⟩ := hrel
    go_wp2_with
      (at_next
       refine wpList_nextRow rfl _ rfl _ _ _ _ rfl hr (fun hnil => ?_) (fun p r q w2 hsp f2 z2 r2 hen => ?_)
       rotate_left
       subst hsp
       have hg2 : Grew w w2 := Frm.trans hg f2 (fun k hk e => by omega)
       have hf := (h4 r (hsub r (by simp))).keepG hg2
       obtain ⟨a, cap, hdv, _, _, _⟩ := hf.2.rd.shape
       have cf : w2.cell? ⟨r.bf, 0, none⟩ = some (.slice a r.f.data.length cap) := by rw [cell_of hf.1, ← hdv]; rfl
       have hm := sum_perm_mid p q r
       have hsum : usedR rows - usedR (p ++ r :: q) + r.f.data.length = usedR rows - usedR (p ++ q) := by omega
       have hb : r.f.data.length ≤ 1073741824 := by omega
       have Hs := Lib.hid hsum
       clear hsum hf
       rotate_right)
    · subst hnil
      go_ret
      exact ⟨by simp [usedR], hg⟩
    · go_roundg (p ++ q).length
      case measure => rw [← hl]; simp
      case rel =>
        refine ⟨p ++ q, rfl, r2, fun r' h' => hsub r' (by simp at h' ⊢; rcases h' with h' | h' <;> simp [h']), hg2, by omega, ?_⟩
        exact congrArg (Value.int .i64) (by have := Hs.out; omega)
end Go.Proofs.Ytjcjajpndchfdaa
