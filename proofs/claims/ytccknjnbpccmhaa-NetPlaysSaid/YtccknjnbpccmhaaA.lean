/- The net as plain data: messages in a row; and how a net lies in memory. -/
import Derived.Test.YtccknjnbpccmhaaS
namespace Go.Proofs.Ytccknjnbpccmhaa
open Go.RowKit

/-- a message -/
structure Mg where
  frm : Int
  to : Int
  data : List UInt8
/-- .. in memory: its bytes' slice -/
structure Mr where
  dv : Value
  m : Mg
def Mr.cells (r : Mr) : List Value := [.int .i64 r.m.frm, .int .i64 r.m.to, r.dv]
def Mr.val (r : Mr) : Value := .agg #[.int .i64 r.m.frm, .int .i64 r.m.to, r.dv]
def Mr.blocks (r : Mr) : List Nat := r.dv.ownBlock.toList
def cellsOf (rows : List Mr) : List Value := rows.flatMap Mr.cells

theorem cellsOf_append (a b : List Mr) : cellsOf (a ++ b) = cellsOf a ++ cellsOf b := by simp [cellsOf]
theorem cellsOf_length (rows : List Mr) : (cellsOf rows).length = rows.length * 3 := by
  induction rows with
  | nil => rfl
  | cons r l ih =>
    have : cellsOf (r :: l) = r.cells ++ cellsOf l := by simp [cellsOf]
    rw [this, List.length_append, ih]; simp [Mr.cells]; omega
theorem cellsOf_at (rows : List Mr) (i c : Nat) (hi : i < rows.length) (hc : c < 3) : (cellsOf rows)[i * 3 + c]? = rows[i].cells[c]? := by
  have h : rows = rows.take i ++ rows[i] :: rows.drop (i + 1) := by rw [List.getElem_cons_drop, List.take_append_drop]
  have hl : (cellsOf (rows.take i)).length = i * 3 := by rw [cellsOf_length]; simp; omega
  conv => lhs; rw [h]
  rw [cellsOf_append, List.getElem?_append_right (by omega), hl]
  have : ∀ (r : Mr) (l : List Mr), cellsOf (r :: l) = r.cells ++ cellsOf l := fun r l => by simp [cellsOf]
  rw [this, List.getElem?_append_left (by simp [Mr.cells]; omega)]
  congr 1; omega
theorem cellsOf_take (rows : List Mr) (i : Nat) (hi : i ≤ rows.length) : cellsOf (rows.take i) = (cellsOf rows).take (i * 3) := by
  have h : cellsOf rows = cellsOf (rows.take i) ++ cellsOf (rows.drop i) := by rw [← cellsOf_append, List.take_append_drop]
  rw [h, List.take_left' (by rw [cellsOf_length]; simp; omega)]
theorem cellsOf_drop (rows : List Mr) (i : Nat) (hi : i ≤ rows.length) : cellsOf (rows.drop i) = (cellsOf rows).drop (i * 3) := by
  have h : cellsOf rows = cellsOf (rows.take i) ++ cellsOf (rows.drop i) := by rw [← cellsOf_append, List.take_append_drop]
  rw [h, List.drop_left' (by rw [cellsOf_length]; simp; omega)]
theorem cellsOf_one {w : World} {rows : List Mr} (h : ∀ r ∈ rows, OwnB w r.dv r.m.data) : ∀ u ∈ cellsOf rows, u.oneCell' = true := by
  intro u hu
  obtain ⟨r, hr, hu⟩ := List.mem_flatMap.1 hu
  simp only [Mr.cells, List.mem_cons, List.not_mem_nil, or_false] at hu
  rcases hu with rfl | rfl | rfl
  · rfl
  · rfl
  · obtain ⟨a, c, e, _⟩ := (h r hr).rd.shape
    rw [e]; rfl

/-- v is a slice of these messages. -/
abbrev Row (w : World) (v : Value) (rows : List Mr) : Prop := Own w 25 3 v rows.length (cellsOf rows)

/-- Block bn (of type T) is a net with the messages l; S: all its blocks. -/
def NetAt (T : TypeId) (w : World) (bn : Nat) (l : List Mg) (S : List Nat) : Prop :=
  ∃ (v : Value) (rows : List Mr), w.heap[bn]? = some (.cells #[v] T (0, 0)) ∧ Row w v rows ∧ (∀ r ∈ rows, OwnB w r.dv r.m.data) ∧ l = rows.map (·.m) ∧
    S = bn :: (v.ownBlock.toList ++ rows.flatMap Mr.blocks) ∧ S.Nodup ∧ l.length ≤ 1024 ∧ ∀ m ∈ l, m.data.length ≤ 1048576

def NetPost (T : TypeId) (w : World) (bn : Nat) (S : List Nat) (v : Value) (l' : List Mg) (e : Ending) (w' : World) : Prop :=
  ∃ S', e = .returned v ∧ NetAt T w' bn l' S' ∧ Frm (· ∈ S) w w' ∧ ∀ k ∈ S', k ∈ S ∨ w.heap.size ≤ k

theorem NetAt.keep {T : TypeId} {Q : Nat → Prop} {w w' : World} {bn : Nat} {l : List Mg} {S : List Nat} (h : NetAt T w bn l S) (f : Frm Q w w') (hQ : ∀ k ∈ S, ¬ Q k) : NetAt T w' bn l S := by
  obtain ⟨v, rows, h1, h2, h3, h4, rfl, h6⟩ := h
  refine ⟨v, rows, f.keep h1 (hQ bn (by simp)), h2.keep f (fun k hk => hQ k (by simp [hk])), fun r hr => (h3 r hr).keep f (fun k hk => hQ k ?_), h4, rfl, h6⟩
  simp only [List.mem_cons, List.mem_append, List.mem_flatMap]
  exact .inr (.inr ⟨r, hr, by simp [Mr.blocks, hk]⟩)
theorem NetAt.keepG {T : TypeId} {w w' : World} {bn : Nat} {l : List Mg} {S : List Nat} (h : NetAt T w bn l S) (f : Grew w w') : NetAt T w' bn l S := h.keep f (fun _ _ f => f)
theorem NetAt.lt {T : TypeId} {w : World} {bn : Nat} {l : List Mg} {S : List Nat} (h : NetAt T w bn l S) : ∀ k ∈ S, k < w.heap.size := by
  obtain ⟨v, rows, h1, h2, h3, h4, rfl, h6⟩ := h
  intro k hk
  simp only [List.mem_cons, List.mem_append, List.mem_flatMap] at hk
  rcases hk with rfl | hk | ⟨r, hr, hk⟩
  · exact lt_of_heap h1
  · exact h2.lt k (by simpa using hk)
  · exact (h3 r hr).lt k (by simpa [Mr.blocks] using hk)

/-- what Send does, and whether it does -/
def netOk (l : List Mg) : Bool := decide (l.length < 1024)
def netSend (l : List Mg) (m : Mg) : List Mg := if l.length < 1024 then l ++ [m] else l

/-! ### own -/
def OwnPost (w : World) (f t : Int) (data : List UInt8) (e : Ending) (w' : World) : Prop :=
  ∃ dv, e = .returned (.agg #[.int .i64 f, .int .i64 t, dv]) ∧ OwnB w' dv data ∧ Grew w w' ∧ Fresh w dv

set_option maxRecDepth 100000 in
set_option maxHeartbeats 1000000 in
theorem nown_spec (w : World) (f t : Int) (dv : Value) (data : List UInt8) (hd : Bytes w dv data) (hl : data.length ≤ 1048576) :
    Calls Try.prog 21 #[.agg #[.int .i64 f, .int .i64 t, dv]] w (OwnPost w f t data) := by
  have gg : Grew w ((w.alloc (.cells #[.int .i64 f, .int .i64 t, dv] 25)).alloc (.cells #[.int .i64 0, .int .i64 0, .slice none 0 0] 25)) := (grew_alloc w _).alloc _
  have b1 := heap_alloc_new' w (.cells #[.int .i64 f, .int .i64 t, dv] 25)
  have b2 := heap_alloc_new' (w.alloc (.cells #[.int .i64 f, .int .i64 t, dv] 25)) (.cells #[.int .i64 0, .int .i64 0, .slice none 0 0] 25)
  simp only [World.size_alloc] at b2
  have b1' := (grew_alloc _ (.cells #[.int .i64 0, .int .i64 0, .slice none 0 0] 25)).keepG b1
  have Hb := Lib.hid (And.intro b1' b2)
  clear b1 b2 b1'
  go_enter Try.func21, Try.ntmps21
  go_wp2_with
    (go_at_call 31;
     (with_reducible refine (bclone_spec _ dv data (hd.keepG gg) (by omega)).mono ?_)
     rintro e w2 ⟨dv', rfl, hd2, g2, fr2⟩
     obtain ⟨va, vc, rfl, _, _, _⟩ := hd2.rd.shape
     have c1 := fun o v h => cell_is (g2.keepG Hb.out.1) o v h
     have c2 := fun o v h => cell_is (g2.keepG Hb.out.2) o v h
     have f1 := frozen_of (g2.keepG Hb.out.1)
     have f2 := frozen_of (g2.keepG Hb.out.2)
     have c10 := c1 0 _ rfl
     have c11 := c1 1 _ rfl
     have c12 := c1 2 _ rfl
     have c20 := c2 0 _ rfl
     have c21 := c2 1 _ rfl
     have c22 := c2 2 _ rfl
     clear c1 c2)
  have f3 : Frm (fun k => k = w.heap.size ∨ k = w.heap.size + 1) w2 ((((w2.setCell ⟨w.heap.size, 2, none⟩ (.slice va data.length vc)).setCell ⟨w.heap.size + 1, 0, none⟩ (.int .i64 f)).setCell ⟨w.heap.size + 1, 1, none⟩ (.int .i64 t)).setCell ⟨w.heap.size + 1, 2, none⟩ (.slice va data.length vc)) :=
    ((((Frm.refl _ w2).setCell (fun _ => .inl rfl) _).setCell (fun _ => .inr rfl) _).setCell (fun _ => .inr rfl) _).setCell (fun _ => .inr rfl) _
  refine bodyPost_ret (v := .agg #[.int .i64 f, .int .i64 t, .slice va data.length vc]) (by simp [results, Try.results21, go_sem, c20, c21, c22]) rfl ⟨_, rfl, hd2.keep f3 (fun k hk => ?_), Frm.trans (Grew.trans gg g2) f3 (fun k hk h => by omega), fun k hk => ?_⟩
  · have := fr2 k hk
    simp at this; omega
  · have := fr2 k hk
    simp at this; omega
end Go.Proofs.Ytccknjnbpccmhaa
