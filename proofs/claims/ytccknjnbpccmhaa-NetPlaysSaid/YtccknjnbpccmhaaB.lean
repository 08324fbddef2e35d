/- Slices as lists of cells: owned ones ('Own'), ones that are only read ('Rd'), and append. -/
import Derived.Test.YtccknjnbpccmhaaH
namespace Go.Proofs.Ytccknjnbpccmhaa
open Go.RowKit

/-- v is a slice of n elements of e (each 'size' cells), with block 0-based, that may be appended to. -/
def Own (w : World) (e : TypeId) (size : Nat) (v : Value) (n : Nat) (xs : List Value) : Prop :=
  xs.length = n * size ∧ ((v = .slice none 0 0 ∧ n = 0) ∨ ∃ g cap c, v = .slice (some ⟨g, 0, none⟩) n cap ∧ w.heap[g]? = some (.cells c e (0, 0)) ∧ n ≤ cap ∧ cap * size ≤ c.size ∧ cap ≤ maxLen ∧ c.toList.take (n * size) = xs)

/-- v is a slice of n elements that is read. (One of no element may point anywhere; the block's own type is of no matter.) -/
def Rd (w : World) (_e : TypeId) (size : Nat) (v : Value) (n : Nat) (xs : List Value) : Prop :=
  xs.length = n * size ∧ ((v = .slice none 0 0 ∧ n = 0) ∨ (n = 0 ∧ ∃ a cap, v = .slice (some a) 0 cap ∧ cap ≤ maxLen) ∨
    ∃ g off cap c t fr, v = .slice (some ⟨g, off, none⟩) n cap ∧ w.heap[g]? = some (.cells c t fr) ∧ n ≤ cap ∧ cap ≤ maxLen ∧ (c.toList.drop off).take (n * size) = xs)

/-- the block that is read -/
def rdBlock : Value → Option Nat
  | .slice (some a) (_ + 1) _ => some a.block
  | _ => none
theorem rdBlock_own {v : Value} {k : Nat} (h : rdBlock v = some k) : v.ownBlock = some k := by
  unfold rdBlock at h
  split at h
  · exact h
  · cases h
theorem rdBlock_pos {a : Addr} {n cap : Nat} (h : 0 < n) : rdBlock (.slice (some a) n cap) = some a.block := by
  cases n with
  | zero => omega
  | succ n => rfl

variable {w w' : World} {e : TypeId} {size n : Nat} {v : Value} {xs : List Value}

theorem Own.rd (h : Own w e size v n xs) : Rd w e size v n xs := by
  obtain ⟨h1, h2⟩ := h
  refine ⟨h1, ?_⟩
  rcases h2 with h2 | ⟨g, cap, c, a1, a2, a3, a4, a5, a6⟩
  · exact .inl h2
  · exact .inr (.inr ⟨g, 0, cap, c, e, (0, 0), a1, a2, a3, a5, by simpa using a6⟩)

theorem Own.nil (w : World) (e : TypeId) (size : Nat) : Own w e size (.slice none 0 0) 0 [] := ⟨by simp, .inl ⟨rfl, rfl⟩⟩
theorem Rd.nil (w : World) (e : TypeId) (size : Nat) : Rd w e size (.slice none 0 0) 0 [] := ⟨by simp, .inl ⟨rfl, rfl⟩⟩

theorem Own.lt (h : Own w e size v n xs) : ∀ k, v.ownBlock = some k → k < w.heap.size := by
  intro k hk
  rcases h.2 with ⟨rfl, _⟩ | ⟨g, cap, c, rfl, a2, _⟩
  · simp [Value.ownBlock] at hk
  · simp [Value.ownBlock] at hk; subst hk; exact lt_of_heap a2
theorem Rd.lt (h : Rd w e size v n xs) : ∀ k, rdBlock v = some k → k < w.heap.size := by
  intro k hk
  rcases h.2 with ⟨rfl, _⟩ | ⟨_, a, cap, rfl, _⟩ | ⟨g, off, cap, c, t, fr, rfl, a2, _⟩
  · cases hk
  · cases hk
  · have := rdBlock_own hk; simp [Value.ownBlock] at this; subst this; exact lt_of_heap a2

theorem Own.of_eq (h : Own w e size v n xs) (hh : ∀ k, v.ownBlock = some k → w'.heap[k]? = w.heap[k]?) : Own w' e size v n xs := by
  obtain ⟨h1, h2⟩ := h
  refine ⟨h1, ?_⟩
  rcases h2 with h2 | ⟨g, cap, c, rfl, a2, a3⟩
  · exact .inl h2
  · exact .inr ⟨g, cap, c, rfl, (hh g rfl).trans a2, a3⟩
theorem Rd.of_eq (h : Rd w e size v n xs) (hh : ∀ k, rdBlock v = some k → w'.heap[k]? = w.heap[k]?) : Rd w' e size v n xs := by
  obtain ⟨h1, h2⟩ := h
  refine ⟨h1, ?_⟩
  rcases h2 with h2 | h2 | ⟨g, off, cap, c, t, fr, rfl, a2, a3, a4, a5⟩
  · exact .inl h2
  · exact .inr (.inl h2)
  · cases n with
    | zero => exact .inr (.inl ⟨rfl, _, cap, rfl, a4⟩)
    | succ n => exact .inr (.inr ⟨g, off, cap, c, t, fr, rfl, (hh g rfl).trans a2, a3, a4, a5⟩)
theorem Own.keep {S : Nat → Prop} (h : Own w e size v n xs) (f : Frm S w w') (hS : ∀ k, v.ownBlock = some k → ¬ S k) : Own w' e size v n xs :=
  h.of_eq fun k hk => f.block k (h.lt k hk) (hS k hk)
theorem Rd.keep {S : Nat → Prop} (h : Rd w e size v n xs) (f : Frm S w w') (hS : ∀ k, rdBlock v = some k → ¬ S k) : Rd w' e size v n xs :=
  h.of_eq fun k hk => f.block k (h.lt k hk) (hS k hk)
theorem Own.keepG (h : Own w e size v n xs) (f : Grew w w') : Own w' e size v n xs := h.keep f fun _ _ f => f
theorem Rd.keepG (h : Rd w e size v n xs) (f : Grew w w') : Rd w' e size v n xs := h.keep f fun _ _ f => f

/-- the slice's shape -/
theorem Rd.shape (h : Rd w e size v n xs) : ∃ a cap, v = .slice a n cap ∧ n ≤ cap ∧ n ≤ maxLen ∧ cap ≤ maxLen := by
  rcases h.2 with ⟨rfl, rfl⟩ | ⟨rfl, a, cap, rfl, a4⟩ | ⟨g, off, cap, c, t, fr, rfl, a2, a3, a4, _⟩
  · exact ⟨none, 0, rfl, Nat.le_refl _, Nat.zero_le _, Nat.zero_le _⟩
  · exact ⟨_, cap, rfl, Nat.zero_le _, Nat.zero_le _, a4⟩
  · exact ⟨_, cap, rfl, a3, Nat.le_trans a3 a4, a4⟩

theorem Rd.cases (h : Rd w e size v n xs) : (v = .slice none 0 0 ∧ n = 0) ∨ ∃ a cap, v = .slice (some a) n cap ∧ n ≤ cap ∧ cap ≤ maxLen := by
  rcases h.2 with h | ⟨rfl, a, cap, rfl, a4⟩ | ⟨g, off, cap, c, t, fr, rfl, a2, a3, a4, _⟩
  · exact .inl h
  · exact .inr ⟨a, cap, rfl, Nat.zero_le _, a4⟩
  · exact .inr ⟨_, cap, rfl, a3, a4⟩

/-- its cells, for append's laws -/
theorem Rd.cells (h : Rd w e size v n xs) {a : Addr} {m cap : Nat} (hv : v = .slice (some a) m cap) : m = n ∧ ∀ j u, xs[j]? = some u → w.cell? (a.add j) = some u := by
  rcases h.2 with ⟨rfl, rfl⟩ | ⟨rfl, a', cap', rfl, a4⟩ | ⟨g, off, cap', c, t, fr, rfl, a2, a3, a4, a5⟩
  · cases hv
  · cases hv
    have hx : xs = [] := List.eq_nil_of_length_eq_zero (by simpa using h.1)
    subst hx
    exact ⟨rfl, fun j u hu => by simp at hu⟩
  · cases hv
    refine ⟨rfl, fun j u hu => ?_⟩
    rw [Addr.add_lit, cell_of a2]
    rw [← a5, List.getElem?_take] at hu
    split at hu
    · rw [List.getElem?_drop] at hu
      simpa using hu
    · cases hu

/-- a cell of it -/
theorem Rd.cell (h : Rd w e size v n xs) {g off cap : Nat} (hv : v = .slice (some ⟨g, off, none⟩) n cap) (j : Nat) {u : Value} (hu : xs[j]? = some u) : w.cell? ⟨g, off + j, none⟩ = some u := by
  have := (h.cells hv).2 j u hu
  rwa [Addr.add_lit] at this

theorem Own.made (w : World) (e : TypeId) (size : Nat) : Own (w.alloc (.cells #[] e)) e size (.slice (some ⟨w.heap.size, 0, none⟩) 0 0) 0 [] :=
  ⟨by simp, .inr ⟨w.heap.size, 0, #[], rfl, heap_alloc_new' w _, Nat.le_refl _, by simp, Nat.zero_le _, by simp⟩⟩

/-- a new slice literal -/
theorem Own.lit (w : World) (e : TypeId) (size n : Nat) (cs : Array Value) (hs : cs.size = n * size) (hn : n ≤ maxLen) : Own (w.alloc (.cells cs e)) e size (.slice (some ⟨w.heap.size, 0, none⟩) n n) n cs.toList :=
  ⟨by simpa using hs, .inr ⟨w.heap.size, n, cs, rfl, heap_alloc_new' w _, Nat.le_refl _, by omega, hn, by rw [List.take_of_length_le]; simp [hs]⟩⟩

variable {P : Program}

/-- append, whatever the two slices are. -/
theorem run_append (t ty : TypeId) (i : TypeInfo) (z : Value) (bytes : Nat) (ht : P.underlying t = some (.slice e)) (hi : P.info? e = some i) (hz : i.zero = some z)
    (hsize : i.size = size) (hby : i.bytes = bytes) (hzs : z.cells.size = size) (hown : Own w e size v n xs)
    {src : Value} {m : Nat} {news : List Value} (hsrc : Rd w e size src m news) (h1 : ∀ u ∈ news, u.oneCell' = true)
    (h63 : n + m ≤ maxLen) (hbytes : (n + m) * bytes ≤ 140737488355328) :
    ∃ v' w', (Builtin.append_ #[t, t] ty #[v, src]).run P w = .ok v' w' ∧ Own w' e size v' (n + m) (xs ++ news) ∧ Frm (fun k => v.ownBlock = some k) w w' ∧
      (v'.ownBlock = v.ownBlock ∨ v'.ownBlock = some w.heap.size) ∧ (v = .slice none 0 0 → m = 0 → v' = .slice none 0 0) ∧ (v ≠ .slice none 0 0 → v' ≠ .slice none 0 0) ∧ (0 < m → v' ≠ .slice none 0 0) := by
  subst hsize
  have hlen : (xs ++ news).length = (n + m) * i.size := by rw [List.length_append, hown.1, hsrc.1, Nat.add_mul]
  have hl := hsrc.1
  rcases hsrc.cases with ⟨rfl, rfl⟩ | ⟨sa, scap, rfl, _⟩
  · have hn0 : news = [] := List.eq_nil_of_length_eq_zero (by simpa using hl)
    subst hn0
    refine ⟨v, w, ?_, by simpa using hown, Frm.refl _ w, .inl rfl, fun h _ => h, fun h => h, fun h => by omega⟩
    rcases hown.2 with ⟨rfl, rfl⟩ | ⟨g, cap, c, rfl, a2, a3, _⟩
    · simp [Builtin.append_, run_underlying ht, sizeOf, typeInfo, hi, Builtin.lenOf, Builtin.firstCells]
    · simp [Builtin.append_, run_underlying ht, sizeOf, typeInfo, hi, Builtin.lenOf, Builtin.firstCells, a3, storeCells]
  · have hnews := (hsrc.cells rfl).2
    have grown : ∀ old, old ≤ maxLen →
        Own (w.drew.alloc (.cells (xs.toArray ++ news.toArray ++ Builtin.zeroCells z.cells (grownCap w (n + m) old e - (n + m))) e)) e i.size
          (.slice (some ⟨w.heap.size, 0, none⟩) (n + m) (grownCap w (n + m) old e)) (n + m) (xs ++ news) := by
      intro old ho
      have hge := grownCap_ge w (n + m) old e
      have hcm : grownCap w (n + m) old e ≤ maxLen := grownCap_le_maxLen w (n + m) old e h63
      refine ⟨hlen, .inr ⟨w.heap.size, _, _, rfl, heap_alloc_new' w.drew _, hge, ?_, hcm, ?_⟩⟩
      · simp only [Array.size_append, List.size_toArray, size_zeroCells, hzs, hown.1, hl, ← Nat.add_mul]
        exact Nat.mul_le_mul_right _ (by omega)
      · simp only [Array.toList_append, List.append_assoc]
        rw [← List.append_assoc, ← hlen]
        exact List.take_left
    have fr : ∀ (S : Nat → Prop) o, Frm S w (w.drew.alloc o) := fun S o => ((Frm.refl S w).drew).alloc o
    rcases hown.2 with ⟨rfl, rfl⟩ | ⟨g, cap, c, rfl, a2, a3, a4, a5, a6⟩
    · have hx : xs = [] := List.eq_nil_of_length_eq_zero (by simpa using hown.1)
      subst hx
      by_cases hm : m = 0
      · subst hm
        have hn0 : news = [] := List.eq_nil_of_length_eq_zero (by simpa using hl)
        subst hn0
        refine ⟨.slice none 0 0, w, ?_, Own.nil w e i.size, Frm.refl _ w, .inl rfl, fun _ _ => rfl, fun h => h, fun h => by omega⟩
        simp [Builtin.append_, run_underlying ht, sizeOf, typeInfo, hi, Builtin.lenOf, Builtin.firstCells, loadCells, loadCellsFrom]
      · have hr := run_append_nil (P := P) w t ty e i z ht hi hz sa m scap news hl hnews (by omega) (by unfold maxLen at h63; omega) (by have hb := hbytes; simp only [Nat.zero_add] at hb; rw [hby]; omega)
        have hgr := grown 0 (Nat.zero_le _)
        simp only [Nat.zero_add, List.nil_append, Array.empty_append] at hgr ⊢
        exact ⟨_, _, hr, hgr, fr _ _, .inr rfl, fun _ h => by omega, fun _ => by simp, fun _ => by simp⟩
    · by_cases hroom : n + m ≤ cap
      · have hfit : n * i.size + news.length ≤ c.size := by rw [hl, ← Nat.add_mul]; exact Nat.le_trans (Nat.mul_le_mul_right _ hroom) a4
        have hr := run_append_room (P := P) w t ty e i ht hi g n cap c a2 sa m scap news hl hnews h1 hroom hfit
        refine ⟨_, _, hr, ⟨hlen, .inr ⟨g, cap, _, rfl, setRow_heap w g c _ e _ a2, hroom, ?_, a5, ?_⟩⟩, ⟨rfl, rfl, rfl, by simp [World.setRow], fun k _ hk => setRow_other w g k _ (fun e => hk (by simp [Value.ownBlock, e]))⟩, .inl rfl, fun h => by simp at h, fun _ => by simp, fun _ => by simp⟩
        · simp only [List.size_toArray, List.length_append, List.length_take, List.length_drop, Array.length_toList]
          omega
        · rw [a6, ← hlen]
          exact List.take_left
      · have holds : ∀ j u, xs[j]? = some u → w.cell? ((⟨g, 0, none⟩ : Addr).add j) = some u := (hown.rd.cells rfl).2
        have hr := run_append_grow (P := P) w t ty e i z ht hi hz ⟨g, 0, none⟩ n cap xs hown.1 holds sa m scap news hl hnews (by omega) (by unfold maxLen at h63; omega) (growslice_fits (by omega) (by rw [hby]; exact hbytes))
        exact ⟨_, _, hr, grown cap a5, fr _ _, .inr rfl, fun h => by simp at h, fun _ => by simp, fun _ => by simp⟩

/-- append at the operation. -/
theorem wp_append {o : Oper} {a : Act} {K : Act → World → Prop} {Q : Exit → Act → World → Prop} (s x : Operand) (t : TypeId)
    (ho : o.op = .call { callee := .builtin .append, args := #[s, x], argTypes := #[t, t] })
    (i : TypeInfo) (z : Value) (bytes : Nat) (ht : P.underlying t = some (.slice e)) (hi : P.info? e = some i) (hz : i.zero = some z)
    (hsize : i.size = size) (hby : i.bytes = bytes) (hzs : z.cells.size = size) {v src : Value} (hs : a.eval s = v) (hx : a.eval x = src) (hown : Own w e size v n xs)
    {m : Nat} {news : List Value} (hsrc : Rd w e size src m news) (h1 : ∀ u ∈ news, u.oneCell' = true)
    (h63 : n + m ≤ maxLen) (hbytes : (n + m) * bytes ≤ 140737488355328)
    (h : ∀ v' w', Own w' e size v' (n + m) (xs ++ news) → Frm (fun k => v.ownBlock = some k) w w' → (v'.ownBlock = v.ownBlock ∨ v'.ownBlock = some w.heap.size) →
      (v ≠ .slice none 0 0 → v' ≠ .slice none 0 0) → K (a.put o.dst v') w') : o.wp P a w K Q := by
  obtain ⟨v', w', hr, h2, h3, h4, h5, h6, h7⟩ := run_append (P := P) t o.type i z bytes ht hi hz hsize hby hzs hown hsrc h1 h63 hbytes
  unfold Oper.wp execOp
  simp only [ho, resolve, invoke, builtin, Sem.run_bind, Sem.run_pure, Result.andThen_ok, List.map_toArray, List.map_cons, List.map_nil, hs, hx, hr]
  exact h v' w' h2 h3 h4 h6

theorem wpList_append {ops : Array Oper} {rest : List Oper} {o : Oper} {a : Act} {Q : Exit → Act → World → Prop} (hgd : o.guard = none) (s x : Operand) (t : TypeId)
    (ho : o.op = .call { callee := .builtin .append, args := #[s, x], argTypes := #[t, t] })
    (i : TypeInfo) (z : Value) (bytes : Nat) (ht : P.underlying t = some (.slice e)) (hi : P.info? e = some i) (hz : i.zero = some z)
    (hsize : i.size = size) (hby : i.bytes = bytes) (hzs : z.cells.size = size) {v src : Value} (hs : a.eval s = v) (hx : a.eval x = src) (hown : Own w e size v n xs)
    {m : Nat} {news : List Value} (hsrc : Rd w e size src m news) (h1 : ∀ u ∈ news, u.oneCell' = true)
    (h63 : n + m ≤ maxLen) (hbytes : (n + m) * bytes ≤ 140737488355328)
    (h : ∀ v' w', Own w' e size v' (n + m) (xs ++ news) → Frm (fun k => v.ownBlock = some k) w w' → (v'.ownBlock = v.ownBlock ∨ v'.ownBlock = some w.heap.size) →
      (v ≠ .slice none 0 0 → v' ≠ .slice none 0 0) → wpList P ops Q rest (a.put o.dst v') w') : wpList P ops Q (o :: rest) a w :=
  wpList_plain hgd fun _ hK => wp_append s x t ho i z bytes ht hi hz hsize hby hzs hs hx hown hsrc h1 h63 hbytes fun v' w' h2 h3 h4 h5 => hK _ _ (h v' w' h2 h3 h4 h5)

theorem step_append {ops : Array Oper} {o : Oper} {a : Act} {K : Act → World → Prop} {Q : Exit → Act → World → Prop} {E : Prop} (hgd : o.guard = none) (s x : Operand) (t : TypeId)
    (ho : o.op = .call { callee := .builtin .append, args := #[s, x], argTypes := #[t, t] })
    (i : TypeInfo) (z : Value) (bytes : Nat) (ht : P.underlying t = some (.slice e)) (hi : P.info? e = some i) (hz : i.zero = some z)
    (hsize : i.size = size) (hby : i.bytes = bytes) (hzs : z.cells.size = size) {v src : Value} (hs : a.eval s = v) (hx : a.eval x = src) (hown : Own w e size v n xs)
    {m : Nat} {news : List Value} (hsrc : Rd w e size src m news) (h1 : ∀ u ∈ news, u.oneCell' = true)
    (h63 : n + m ≤ maxLen) (hbytes : (n + m) * bytes ≤ 140737488355328)
    (h : ∀ v' w', Own w' e size v' (n + m) (xs ++ news) → Frm (fun k => v.ownBlock = some k) w w' → (v'.ownBlock = v.ownBlock ∨ v'.ownBlock = some w.heap.size) →
      (v ≠ .slice none 0 0 → v' ≠ .slice none 0 0) → K (a.put o.dst v') w') : if Region.wanted o (yielded ops a.tmps) = true then o.wp P a w K Q else E := by
  rw [if_pos (by simp [Region.wanted, hgd])]
  exact wp_append s x t ho i z bytes ht hi hz hsize hby hzs hs hx hown hsrc h1 h63 hbytes h

/-! ### Bytes -/
/-- a byte's cell -/
def bc (x : UInt8) : Value := .int .u8 (x.toNat : Int)
/-- v is a slice of the bytes l. -/
abbrev Bytes (w : World) (v : Value) (l : List UInt8) : Prop := Rd w 5 1 v l.length (l.map bc)
/-- .. that may be appended to. -/
abbrev OwnB (w : World) (v : Value) (l : List UInt8) : Prop := Own w 5 1 v l.length (l.map bc)

theorem bc_one (l : List UInt8) : ∀ u ∈ l.map bc, u.oneCell' = true := by
  intro u hu; obtain ⟨x, _, rfl⟩ := List.mem_map.1 hu; rfl

theorem bytes_cell {l : List UInt8} {g off cap : Nat} (h : Bytes w (.slice (some ⟨g, off, none⟩) l.length cap) l) (j : Nat) (hj : j < l.length) : w.cell? ⟨g, off + j, none⟩ = some (.int .u8 (l[j].toNat : Int)) :=
  Rd.cell h rfl j (by simp [hj, bc])

theorem infoU8 : (Try.prog.info? 5).map (fun i => (i.zero, i.size, i.bytes)) = some (some (.int .u8 0), 1, 1) := by kernel_rfl

/-- A shorter beginning of a slice. -/
theorem OwnB.cut {l : List UInt8} {a : Option Addr} {cap : Nat} (h : OwnB w (.slice a l.length cap) l) {k : Nat} (hk : k ≤ l.length) : OwnB w (.slice a k k) (l.take k) := by
  have hl : (l.take k).length = k := by simp [hk]
  refine ⟨by simp, ?_⟩
  rcases h.2 with ⟨h1, h2⟩ | ⟨g, cap', c, h1, a2, a3, a4, a5, a6⟩
  · left
    have h1a : a = none := by injection h1
    have hk0 : k = 0 := by omega
    subst h1a; subst hk0
    exact ⟨rfl, by simp⟩
  · right
    have h1a : a = some ⟨g, 0, none⟩ := by injection h1
    have h1b : cap = cap' := by injection h1
    subst h1a; subst h1b
    refine ⟨g, k, c, by rw [hl], a2, by rw [hl]; exact Nat.le_refl _, by omega, by omega, ?_⟩
    rw [hl]
    have := congrArg (List.take (k * 1)) a6
    rw [List.take_take, List.map_take.symm] at this
    rw [← Nat.mul_one k] at *
    simp only [Nat.mul_one] at *
    rw [Nat.min_eq_left hk] at this
    exact this

/-- A byte is written. -/
theorem OwnB.store {l : List UInt8} {g cap : Nat} (h : OwnB w (.slice (some ⟨g, 0, none⟩) l.length cap) l) {j : Nat} (_hj : j < l.length) (x : UInt8) : OwnB (w.setCell ⟨g, j, none⟩ (bc x)) (.slice (some ⟨g, 0, none⟩) l.length cap) (l.set j x) := by
  refine ⟨by simp, .inr ?_⟩
  rcases h.2 with ⟨h1, h2⟩ | ⟨g', cap', c, h1, a2, a3, a4, a5, a6⟩
  · cases h1
  · cases h1
    refine ⟨g, cap, c.setIfInBounds j (bc x), by simp, heap_setCell_eq a2 _ _, by simpa using a3, by simpa using a4, a5, ?_⟩
    simp only [List.length_set, Nat.mul_one] at a6 ⊢
    rw [Array.toList_setIfInBounds, List.take_set, a6, List.map_set]
theorem OwnB.frozen {l : List UInt8} {g cap : Nat} (h : OwnB w (.slice (some ⟨g, 0, none⟩) l.length cap) l) (j : Nat) : w.frozen? ⟨g, j, none⟩ = false := by
  rcases h.2 with ⟨h1, h2⟩ | ⟨g', cap', c, h1, a2, _⟩
  · cases h1
  · cases h1; exact frozen_of a2 j
theorem OwnB.addr {l : List UInt8} {a : Option Addr} {cap : Nat} (h : OwnB w (.slice a l.length cap) l) (hl : 0 < l.length) : ∃ g, a = some ⟨g, 0, none⟩ := by
  rcases h.2 with ⟨h1, h2⟩ | ⟨g', cap', c, h1, a2, _⟩
  · omega
  · cases h1; exact ⟨_, rfl⟩

/-- append of bytes, at the operation -/
theorem wpList_appendB (v src : Value) (l m : List UInt8) {ops : Array Oper} {rest : List Oper} {o : Oper} {a : Act} {Q : Exit → Act → World → Prop} (hgd : o.guard = none) (s x : Operand)
    (ho : o.op = .call { callee := .builtin .append, args := #[s, x], argTypes := #[23, 23] }) (hs : a.eval s = v) (hx : a.eval x = src) (hown : OwnB w v l) (hsrc : Bytes w src m)
    (hb : l.length + m.length ≤ 140737488355328)
    (h : ∀ v' w', OwnB w' v' (l ++ m) → Frm (fun k => v.ownBlock = some k) w w' → (v'.ownBlock = v.ownBlock ∨ v'.ownBlock = some w.heap.size) →
      (v ≠ .slice none 0 0 → v' ≠ .slice none 0 0) → wpList Try.prog ops Q rest (a.put o.dst v') w') : wpList Try.prog ops Q (o :: rest) a w := by
  obtain ⟨i0, hi, hz0, hz1, hz2⟩ := info_parts infoU8
  refine wpList_append hgd s x 23 ho i0 _ 1 Try.underlying23 hi hz0 hz1 hz2 rfl hs hx hown hsrc (bc_one m) (by unfold maxLen; omega) (by omega) ?_
  intro v' w' h1 h2 h3 h4
  rw [← List.map_append] at h1
  exact h v' w' (by unfold OwnB; rw [List.length_append]; exact h1) h2 h3 h4

theorem step_appendB (v src : Value) (l m : List UInt8) {ops : Array Oper} {o : Oper} {a : Act} {K : Act → World → Prop} {Q : Exit → Act → World → Prop} {E : Prop} (hgd : o.guard = none) (s x : Operand)
    (ho : o.op = .call { callee := .builtin .append, args := #[s, x], argTypes := #[23, 23] }) (hs : a.eval s = v) (hx : a.eval x = src) (hown : OwnB w v l) (hsrc : Bytes w src m)
    (hb : l.length + m.length ≤ 140737488355328)
    (h : ∀ v' w', OwnB w' v' (l ++ m) → Frm (fun k => v.ownBlock = some k) w w' → (v'.ownBlock = v.ownBlock ∨ v'.ownBlock = some w.heap.size) →
      (v ≠ .slice none 0 0 → v' ≠ .slice none 0 0) → K (a.put o.dst v') w') : if Region.wanted o (yielded ops a.tmps) = true then o.wp Try.prog a w K Q else E := by
  obtain ⟨i0, hi, hz0, hz1, hz2⟩ := info_parts infoU8
  refine step_append hgd s x 23 ho i0 _ 1 Try.underlying23 hi hz0 hz1 hz2 rfl hs hx hown hsrc (bc_one m) (by unfold maxLen; omega) (by omega) ?_
  intro v' w' h1 h2 h3 h4
  rw [← List.map_append] at h1
  exact h v' w' (by unfold OwnB; rw [List.length_append]; exact h1) h2 h3 h4

end Go.Proofs.Ytccknjnbpccmhaa
