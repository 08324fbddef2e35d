/- Plain laws for DiskRoom and DiskNames: what is found behind a put; a write that fits. -/
import Derived.Test.YtjcjajpndchfdaaPF
namespace Go.Proofs.Ytjcjajpndchfdaa
open Go.RowKit

theorem find_put (l : List (ByteArray × MF)) (s : ByteArray) (f : MF) : MD.find (MD.put l s f) s = some f := by
  induction l with
  | nil => simp [MD.put, MD.find]
  | cons a l ih =>
    obtain ⟨t, g⟩ := a
    unfold MD.put
    split
    · simp [MD.find]
    · rename_i h
      simp [MD.find, h, ih]
theorem put_length (l : List (ByteArray × MF)) (s : ByteArray) (f : MF) : (MD.put l s f).length ≤ l.length + 1 := by
  induction l with
  | nil => simp [MD.put]
  | cons a l ih =>
    obtain ⟨t, g⟩ := a
    unfold MD.put
    split
    · simp
    · simp; omega

theorem room_fits {D : MD} {nm : ByteArray} {p : List UInt8} (hf : D.fuse = none) (hn : MD.badName nm = false) (hl : D.files.length < 4096) (hr : MD.used D.files + p.length ≤ D.room) :
    ∃ D2 : MD, MD.write D nm p = (0, D2) ∧ D2.room = D.room ∧ D2.fuse = none ∧ D2.files.length ≤ D.files.length + 1 ∧ readData D2 nm = readData D nm ++ p := by
  refine ⟨{ D with files := MD.put D.files nm ⟨((MD.find D.files nm).getD ⟨[], 0⟩).data ++ p, ((MD.find D.files nm).getD ⟨[], 0⟩).lasts⟩ }, ?_, rfl, hf, put_length _ _ _, ?_⟩
  · unfold MD.write MD.gate
    rw [if_neg (by simp [hf]), if_neg (by simp [hn])]
    have hw : MD.writeIn D nm p = (0, { D with files := MD.put D.files nm ⟨((MD.find D.files nm).getD ⟨[], 0⟩).data ++ p, ((MD.find D.files nm).getD ⟨[], 0⟩).lasts⟩ }) := by
      unfold MD.writeIn
      rw [if_neg (by omega)]
    rw [hw]
    simp [hf]
  · unfold readData
    rw [find_put]
    cases MD.find D.files nm <;> simp
theorem room_not {D : MD} {nm : ByteArray} {p : List UInt8} (hf : D.fuse = none) (hn : MD.badName nm = false) (hr : D.room < MD.used D.files + p.length) : MD.write D nm p = (6, D) := by
  unfold MD.write MD.gate
  rw [if_neg (by simp [hf]), if_neg (by simp [hn])]
  have hw : MD.writeIn D nm p = (6, D) := by
    unfold MD.writeIn
    rw [if_pos (by omega)]
  rw [hw]; simp

theorem DiskAt.ok {w : World} {bd : Nat} {D : MD} {S : List Nat} (h : DiskAt w bd D S) : D.Ok := by
  obtain ⟨_, _, _, _, _, _, _, _, _, _, _, hok⟩ := h
  exact hok
theorem readData_le {D : MD} (h : D.Ok) (nm : ByteArray) : (readData D nm).length ≤ D.room := by
  have hu := h.used
  unfold readData
  cases hf : MD.find D.files nm with
  | none => simp
  | some f =>
    have : ∀ l : List (ByteArray × MF), MD.find l nm = some f → f.data.length ≤ MD.used l := by
      intro l
      induction l with
      | nil => intro h; cases h
      | cons a l ih =>
        obtain ⟨t, g⟩ := a
        intro h
        unfold MD.find at h
        rw [used_cons]
        split at h
        · cases h; simp
        · have := ih h; omega
    have := this _ hf
    simp
    omega

def nameAt (k : Nat) : ByteArray := ⟨#[102, UInt8.ofNat k]⟩
theorem nameAt_ok (k : Nat) : MD.badName (nameAt k) = false := by
  have : (nameAt k).size = 2 := rfl
  unfold MD.badName
  rw [this]; rfl
/-- append of bytes as a step of a region that draws its order, behind a guard -/
theorem step_appendG {w : World} (v src : Value) (l m : List UInt8) {ops : Array Oper} {o : Oper} {a : Act} {K : Act → World → Prop} {Q : Exit → Act → World → Prop} {E : Prop} (hgd : Region.wanted o (yielded ops a.tmps) = true) (s x : Operand)
    (ho : o.op = .call { callee := .builtin .append, args := #[s, x], argTypes := #[23, 23] }) (hs : a.eval s = v) (hx : a.eval x = src) (hown : OwnB w v l) (hsrc : Bytes w src m)
    (hb : l.length + m.length ≤ 140737488355328)
    (h : ∀ v' w', OwnB w' v' (l ++ m) → Frm (fun k => v.ownBlock = some k) w w' → (v'.ownBlock = v.ownBlock ∨ v'.ownBlock = some w.heap.size) →
      (v ≠ .slice none 0 0 → v' ≠ .slice none 0 0) → K (a.put o.dst v') w') : if Region.wanted o (yielded ops a.tmps) = true then o.wp Try.prog a w K Q else E := by
  obtain ⟨i0, hi, hz0, hz1, hz2⟩ := info_parts infoU8
  rw [if_pos hgd]
  refine wp_append s x 23 ho i0 _ 1 Try.underlying23 hi hz0 hz1 hz2 rfl hs hx hown hsrc (bc_one m) (by unfold maxLen; omega) (by omega) ?_
  intro v' w' h1 h2 h3 h4
  rw [← List.map_append] at h1
  exact h v' w' (by unfold OwnB; rw [List.length_append]; exact h1) h2 h3 h4

theorem append_fresh {w0 w6 : World} {v : Value} {o : Obj} (G : Grew w0 w6) (h : v.ownBlock = (Value.slice (some ⟨w6.heap.size, 0, none⟩) 0 0).ownBlock ∨ v.ownBlock = some (w6.alloc o).heap.size) : ∀ b, v.ownBlock = some b → w0.heap.size ≤ b := by
  intro b hb
  have hz := G.size
  rcases h with h | h <;> rw [h] at hb <;> simp [Value.ownBlock] at hb <;> omega
theorem name_convert (w : World) (j : Nat) :
    (convert 23 9 (.slice (some ⟨w.heap.size, 0, none⟩) 2 2)).run Try.prog (w.alloc (.cells #[.int .u8 102, .int .u8 ((j : Int) % 3)] 5)) = .ok (.string (nameAt (j % 3))) (w.alloc (.cells #[.int .u8 102, .int .u8 ((j : Int) % 3)] 5)) := by
  have hm : j % 3 < 256 := by omega
  have hb : (UInt8.ofNat (j % 3)).toNat = j % 3 := by simp [UInt8.toNat_ofNat', Nat.mod_eq_of_lt hm]
  refine run_convert_bytes_back (P := Try.prog) _ 23 9 5 ⟨w.heap.size, 0, none⟩ 2 [102, UInt8.ofNat (j % 3)] Try.underlying23 Try.underlying5 Try.underlying9 ?_
  intro i hi
  rw [Addr.add_lit]
  have hh := heap_alloc_new' w (.cells #[.int .u8 102, .int .u8 ((j : Int) % 3)] 5)
  rw [cell_of hh]
  match i, hi with
  | 0, _ => rfl
  | 1, _ => simp [hb]
end Go.Proofs.Ytjcjajpndchfdaa
