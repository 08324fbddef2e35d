/- Plain laws on torn bytes. -/
import Derived.Test.YtjcjajpndchfdaaS
namespace Go.Proofs.Ytjcjajpndchfdaa

def torn (tear : UInt8) (i0 j : Nat) (l : List UInt8) : List UInt8 := l.mapIdx fun k x => if i0 ≤ k ∧ k < j then x ^^^ tear else x

theorem torn_length (tear : UInt8) (i0 j : Nat) (l : List UInt8) : (torn tear i0 j l).length = l.length := by simp [torn]
theorem torn_start (tear : UInt8) (i0 : Nat) (l : List UInt8) : torn tear i0 i0 l = l := by
  unfold torn
  apply List.ext_getElem
  · simp
  · intro i h1 h2
    simp only [List.getElem_mapIdx]
    rw [if_neg (by omega)]
theorem torn_at (tear : UInt8) (i0 j : Nat) (l : List UInt8) (hj : j < l.length) : (torn tear i0 j l)[j]'(by rw [torn_length]; exact hj) = l[j] := by
  unfold torn
  simp
theorem torn_step (tear : UInt8) (i0 j : Nat) (l : List UInt8) (h0 : i0 ≤ j) (hj : j < l.length) : (torn tear i0 j l).set j (l[j] ^^^ tear) = torn tear i0 (j + 1) l := by
  unfold torn
  apply List.ext_getElem
  · simp
  · intro i h1 h2
    simp only [List.getElem_set, List.getElem_mapIdx]
    by_cases hij : j = i
    · subst hij
      rw [if_pos rfl, if_pos (by omega)]
    · rw [if_neg hij]
      by_cases hc : i0 ≤ i ∧ i < j
      · rw [if_pos hc, if_pos (by omega)]
      · rw [if_neg hc, if_neg (by omega)]
theorem torn_end (tear : UInt8) (i0 n : Nat) (l : List UInt8) (hn : l.length ≤ n) : torn tear i0 n l = l.mapIdx fun k x => if i0 ≤ k then x ^^^ tear else x := by
  unfold torn
  apply List.ext_getElem
  · simp
  · intro i h1 h2
    simp only [List.getElem_mapIdx]
    simp at h1
    by_cases hc : i0 ≤ i
    · rw [if_pos (by omega), if_pos hc]
    · rw [if_neg (by omega), if_neg hc]

/-- where the torn bytes begin -/
theorem torn_from (T m : Nat) : max (T : Int) (max 0 ((T : Int) + (m : Int) - 1) / 32 * 32) = ((max T ((T + m - 1) / 32 * 32) : Nat) : Int) := by
  rcases Nat.eq_zero_or_pos (T + m) with h | h
  · obtain rfl : T = 0 := by omega
    obtain rfl : m = 0 := by omega
    decide
  · have e : max 0 ((T : Int) + (m : Int) - 1) = ((T + m - 1 : Nat) : Int) := by omega
    rw [e]
    omega
theorem xor_cell (x y : UInt8) : Value.int .u8 (bits .xor .u8 (x.toNat : Int) (y.toNat : Int)) = bc (x ^^^ y) := by
  unfold bc
  rw [u8_xor_nat _ _ (UInt8.toNat_lt x) (UInt8.toNat_lt y), UInt8.toNat_xor]

theorem crashF_eq (keep : Int) (tear : UInt8) (f : MF) (m : Nat) (hT : f.lasts ≤ f.data.length) (hm : (max 0 keep) % ((f.data.length : Int) - (f.lasts : Int) + 1) = (m : Int)) (hle : f.lasts + m ≤ f.data.length) :
    MD.crashF keep tear f = ⟨torn tear (max f.lasts ((f.lasts + m - 1) / 32 * 32)) (f.lasts + m) (f.data.take (f.lasts + m)), f.lasts + m⟩ := by
  have hmod : (max 0 keep).toNat % (f.data.length - f.lasts + 1) = m := by
    have e : ((f.data.length - f.lasts + 1 : Nat) : Int) = (f.data.length : Int) - (f.lasts : Int) + 1 := by omega
    have : (((max 0 keep).toNat % (f.data.length - f.lasts + 1) : Nat) : Int) = (m : Int) := by
      rw [Int.natCast_emod, e, Int.toNat_of_nonneg (by omega)]; exact hm
    omega
  unfold MD.crashF
  simp only [hmod]
  rw [torn_end _ _ _ _ (by simp; omega)]

theorem rows_nodup {rows : List Rw} (h : rows.Pairwise (fun a b => a.name ≠ b.name)) : rows.Nodup := h.imp (fun {a b} hab e => hab (by rw [e]))

theorem name_inj {rows : List Rw} (h : rows.Pairwise (fun a b => a.name ≠ b.name)) {x r : Rw} (hx : x ∈ rows) (hr : r ∈ rows) (e : x.name = r.name) : x = r := by
  obtain ⟨p, q, rfl⟩ := List.append_of_mem hr
  obtain ⟨h1, h2⟩ := mid_names h
  simp only [List.mem_append, List.mem_cons] at hx
  rcases hx with hx | hx | hx
  · exact absurd e (h1 x hx)
  · exact hx
  · exact absurd e (h2 x hx)

theorem blocks_apart {bd bm : Nat} {rows : List Rw} (h : (bd :: bm :: rows.flatMap Rw.blocks).Nodup) {x r : Rw} (hx : x ∈ rows) (hr : r ∈ rows) (hne : x ≠ r) : ∀ k ∈ x.blocks, k ∉ r.blocks := by
  obtain ⟨p, q, rfl⟩ := List.append_of_mem hr
  have hd := (nodup_del h).2.1
  intro k hk hkr
  refine hd k hkr ?_
  simp only [List.mem_append, List.mem_cons, List.mem_flatMap] at hx ⊢
  rcases hx with hx | hx | hx
  · exact .inr (.inr ⟨x, .inl hx, hk⟩)
  · exact absurd hx hne
  · exact .inr (.inr ⟨x, .inr hx, hk⟩)

theorem crashF_len (keep : Int) (tear : UInt8) (f : MF) (hT : f.lasts ≤ f.data.length) : (MD.crashF keep tear f).data.length = (MD.crashF keep tear f).lasts ∧ (MD.crashF keep tear f).lasts ≤ f.data.length := by
  have hlt := Nat.mod_lt (max 0 keep).toNat (show 0 < f.data.length - f.lasts + 1 by omega)
  unfold MD.crashF
  simp only [List.length_mapIdx, List.length_take]
  constructor <;> omega

theorem crash_ok {D : MD} (h : D.Ok) (keep : Int) (tear : UInt8) : (MD.crash D keep tear).Ok := by
  have hu : ∀ l : List (ByteArray × MF), (∀ p ∈ l, p.2.lasts ≤ p.2.data.length) → MD.used (l.map fun p => (p.1, MD.crashF keep tear p.2)) ≤ MD.used l := by
    intro l
    induction l with
    | nil => intro _; exact Nat.le_refl _
    | cons a l ih =>
      intro hl
      rw [List.map_cons, used_cons, used_cons]
      have h1 := ih (fun p hp => hl p (by simp [hp]))
      have h2 := crashF_len keep tear a.2 (hl a (by simp))
      simp only
      omega
  refine ⟨h.room, Nat.le_trans (hu _ h.lasts) h.used, by simpa [MD.crash] using h.many, ?_, ?_, fun n hn => by cases hn⟩
  · intro p hp
    simp only [MD.crash, List.mem_map] at hp
    obtain ⟨q, hq, rfl⟩ := hp
    exact h.names q hq
  · intro p hp
    simp only [MD.crash, List.mem_map] at hp
    obtain ⟨q, hq, rfl⟩ := hp
    have := crashF_len keep tear q.2 (h.lasts q hq)
    simp only
    omega

theorem blocks_map {rows : List Rw} {g : Rw → Rw} (h : ∀ x ∈ rows, (g x).blocks = x.blocks) : (rows.map g).flatMap Rw.blocks = rows.flatMap Rw.blocks := by
  induction rows with
  | nil => rfl
  | cons a l ih => simp only [List.map_cons, List.flatMap_cons]; rw [h a (by simp), ih (fun x hx => h x (by simp [hx]))]

end Go.Proofs.Ytjcjajpndchfdaa
