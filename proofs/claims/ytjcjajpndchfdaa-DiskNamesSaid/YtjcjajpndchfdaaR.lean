/- Plain laws on the rows of a disk: what a put, a removal leaves; a disk in which one file has turned. -/
import Derived.Test.YtjcjajpndchfdaaU
namespace Go.Proofs.Ytjcjajpndchfdaa
open Go.RowKit

theorem nodup_mid {pre x post y : List Nat} {n : Nat} (h : (pre ++ x ++ post).Nodup) (hlt : ∀ k ∈ pre ++ x ++ post, k < n) (hy : y.Nodup) (hs : ∀ k ∈ y, k ∈ x ∨ n ≤ k) : (pre ++ y ++ post).Nodup := by
  rw [List.append_assoc] at h ⊢
  rw [List.nodup_append] at h ⊢
  obtain ⟨h1, h2, h3⟩ := h
  rw [List.nodup_append] at h2
  obtain ⟨h4, h5, h6⟩ := h2
  refine ⟨h1, List.nodup_append.2 ⟨hy, h5, ?_⟩, ?_⟩
  · intro a ha b hb e
    subst e
    rcases hs a ha with h | h
    · exact h6 a h a hb rfl
    · have := hlt a (by simp [hb]); omega
  · intro a ha b hb e
    subst e
    rcases List.mem_append.1 hb with hb | hb
    · rcases hs a hb with h | h
      · exact h3 a ha a (by simp [h]) rfl
      · have := hlt a (by simp [ha]); omega
    · exact h3 a ha a (by simp [hb]) rfl

abbrev nf (r : Rw) : ByteArray × MF := (r.name, r.f)

theorem names_of_kv {rows : List Rw} (h : (rows.map Rw.kv).Pairwise (fun x y => x.1 ≠ y.1)) : rows.Pairwise (fun a b => a.name ≠ b.name) := by
  rw [List.pairwise_map] at h
  exact h.imp (fun {a b} hab e => hab (by simp [Rw.kv, e]))

theorem mid_names {p q : List Rw} {r : Rw} (h : (p ++ r :: q).Pairwise (fun a b => a.name ≠ b.name)) : (∀ x ∈ p, x.name ≠ r.name) ∧ (∀ x ∈ q, x.name ≠ r.name) := by
  rw [List.pairwise_append] at h
  obtain ⟨_, h2, h3⟩ := h
  exact ⟨fun x hx => h3 x hx r (by simp), fun x hx e => (List.pairwise_cons.1 h2).1 x hx e.symm⟩

theorem find_rows {p q : List Rw} {r : Rw} (h : ∀ x ∈ p, x.name ≠ r.name) : MD.find ((p ++ r :: q).map nf) r.name = some r.f := by
  induction p with
  | nil => simp [MD.find, nf]
  | cons a p ih =>
    have ha := h a (by simp)
    simp only [List.cons_append, List.map_cons, MD.find]
    rw [if_neg ha]
    exact ih (fun x hx => h x (by simp [hx]))
theorem put_rows {p q : List Rw} {r : Rw} (h : ∀ x ∈ p, x.name ≠ r.name) (f : MF) : MD.put ((p ++ r :: q).map nf) r.name f = p.map nf ++ (r.name, f) :: q.map nf := by
  induction p with
  | nil => simp [MD.put, nf]
  | cons a p ih =>
    have ha := h a (by simp)
    simp only [List.cons_append, List.map_cons, MD.put]
    rw [if_neg ha, ih (fun x hx => h x (by simp [hx]))]
theorem del_rows {p q : List Rw} {r : Rw} (h : ∀ x ∈ p, x.name ≠ r.name) : MD.del ((p ++ r :: q).map nf) r.name = (p ++ q).map nf := by
  induction p with
  | nil => simp [MD.del, nf]
  | cons a p ih =>
    have ha := h a (by simp)
    simp only [List.cons_append, List.map_cons, MD.del]
    rw [if_neg ha, ih (fun x hx => h x (by simp [hx]))]
theorem find_none {l : List (ByteArray × MF)} {s : ByteArray} (h : ∀ x ∈ l, x.1 ≠ s) : MD.find l s = none := by
  induction l with
  | nil => rfl
  | cons a l ih =>
    obtain ⟨t, f⟩ := a
    have ha := h (t, f) (by simp)
    simp only [MD.find]
    rw [if_neg ha, ih (fun x hx => h x (by simp [hx]))]
theorem put_none {l : List (ByteArray × MF)} {s : ByteArray} (h : ∀ x ∈ l, x.1 ≠ s) (f : MF) : MD.put l s f = l ++ [(s, f)] := by
  induction l with
  | nil => rfl
  | cons a l ih =>
    obtain ⟨t, g⟩ := a
    have ha := h (t, g) (by simp)
    simp only [MD.put]
    rw [if_neg ha, ih (fun x hx => h x (by simp [hx]))]; rfl
theorem put_last {l : List (ByteArray × MF)} {s : ByteArray} (h : ∀ x ∈ l, x.1 ≠ s) (f0 f : MF) : MD.put (l ++ [(s, f0)]) s f = l ++ [(s, f)] := by
  induction l with
  | nil => simp [MD.put]
  | cons a l ih =>
    obtain ⟨t, g⟩ := a
    have ha := h (t, g) (by simp)
    simp only [List.cons_append, MD.put]
    rw [if_neg ha, ih (fun x hx => h x (by simp [hx]))]
theorem absent_rows {rows : List Rw} {s : ByteArray} (h : ∀ p ∈ rows.map Rw.kv, p.1 ≠ .string s) : ∀ x ∈ rows.map nf, x.1 ≠ s := by
  intro x hx e
  obtain ⟨r, hr, rfl⟩ := List.mem_map.1 hx
  exact h _ (List.mem_map.2 ⟨r, hr, rfl⟩) (by simp only [Rw.kv]; rw [← e])

theorem used_append (a b : List (ByteArray × MF)) : MD.used (a ++ b) = MD.used a + MD.used b := by simp [MD.used]
theorem used_cons (x : ByteArray × MF) (b : List (ByteArray × MF)) : MD.used (x :: b) = x.2.data.length + MD.used b := by simp [MD.used]

/-- the rows' blocks, with one row in the middle -/
theorem blocks_mid (bd bm : Nat) (p q : List Rw) (r : Rw) : bd :: bm :: (p ++ r :: q).flatMap Rw.blocks = (bd :: bm :: p.flatMap Rw.blocks) ++ r.blocks ++ q.flatMap Rw.blocks := by simp

/-- A disk in which one file has turned. -/
theorem disk_mid {w w' : World} {bd bm : Nat} {fused : Bool} {left : Int} {D D' : MD} {p q : List Rw} {r r' : Rw}
    (h1 : w.heap[bd]? = some (.cells #[.int .i64 D.room, .map (some bm), .bool fused, .int .i64 left] 60 (0, 0))) (h2 : fuseCells D.fuse fused left)
    (h3 : MapB Try.prog 9 w bm ((p ++ r :: q).map Rw.kv)) (h4 : ∀ x ∈ p ++ r :: q, FileOk w x) (hnd : (bd :: bm :: (p ++ r :: q).flatMap Rw.blocks).Nodup)
    (hn : r'.name = r.name) (hb : r'.bf = r.bf) (f : Frm (fun k => k ∈ r.blocks) w w') (hf : FileOk w' r') (hs : ∀ k ∈ r'.blocks, k ∈ r.blocks ∨ w.heap.size ≤ k) (hnb : r'.blocks.Nodup)
    (hok : D'.Ok) (hroom : D'.room = D.room) (hfuse : D'.fuse = D.fuse) (hfiles : D'.files = (p ++ r' :: q).map nf) :
    DiskAt w' bd D' (bd :: bm :: (p ++ r' :: q).flatMap Rw.blocks) ∧ ∀ k ∈ bd :: bm :: (p ++ r' :: q).flatMap Rw.blocks, k ∈ bd :: bm :: (p ++ r :: q).flatMap Rw.blocks ∨ w.heap.size ≤ k := by
  have hlt : ∀ k ∈ bd :: bm :: (p ++ r :: q).flatMap Rw.blocks, k < w.heap.size := by
    intro k hk
    simp only [List.mem_cons, List.mem_flatMap] at hk
    rcases hk with rfl | rfl | ⟨x, hx, hk⟩
    · exact lt_of_heap h1
    · exact h3.lt
    · have := h4 x hx
      simp only [Rw.blocks, List.mem_cons, Option.mem_toList] at hk
      rcases hk with rfl | hk
      · exact lt_of_heap this.1
      · exact this.2.lt k hk
  rw [blocks_mid] at hnd hlt
  have hnd' := nodup_mid hnd hlt hnb hs
  have far : ∀ k ∈ (bd :: bm :: p.flatMap Rw.blocks) ++ q.flatMap Rw.blocks, k ∉ r.blocks := by
    intro k hk hr
    rw [List.nodup_append] at hnd
    obtain ⟨ha, hb, hc⟩ := hnd
    rw [List.nodup_append] at ha
    rcases List.mem_append.1 hk with hk | hk
    · exact ha.2.2 k hk k hr rfl
    · exact hc k (by simp [hr]) k hk rfl
  rw [← blocks_mid] at hnd'
  refine ⟨⟨bm, fused, left, p ++ r' :: q, ?_, by rw [hfuse]; exact h2, ?_, ?_, hfiles, rfl, hnd', hok⟩, ?_⟩
  · rw [hroom]; exact f.keep h1 (far bd (by simp))
  · have e : (p ++ r' :: q).map Rw.kv = (p ++ r :: q).map Rw.kv := by simp [Rw.kv, hn, hb]
    rw [e]; exact h3.keep f (far bm (by simp))
  · intro x hx
    rcases List.mem_append.1 hx with hx | hx
    · exact (h4 x (by simp [hx])).keep f (fun k hk => far k (by
        simp only [List.cons_append, List.mem_cons, List.mem_append, List.mem_flatMap]; exact .inr (.inr (.inl ⟨x, hx, hk⟩))))
    · rcases List.mem_cons.1 hx with rfl | hx
      · exact hf
      · exact (h4 x (by simp [hx])).keep f (fun k hk => far k (by
          simp only [List.cons_append, List.mem_cons, List.mem_append, List.mem_flatMap]; exact .inr (.inr (.inr ⟨x, hx, hk⟩))))
  · intro k hk
    rw [blocks_mid] at hk ⊢
    rcases List.mem_append.1 hk with hk | hk
    · rcases List.mem_append.1 hk with hk | hk
      · exact .inl (by simp only [List.mem_append]; exact .inl (.inl hk))
      · rcases hs k hk with h | h
        · exact .inl (by simp only [List.mem_append]; exact .inl (.inr h))
        · exact .inr h
    · exact .inl (by simp only [List.mem_append]; exact .inr hk)

theorem nb_of_nodup {bd bm : Nat} {p q : List Rw} {r : Rw} (h : (bd :: bm :: (p ++ r :: q).flatMap Rw.blocks).Nodup) : ∀ k, r.dv.ownBlock = some k → k ≠ r.bf := by
  rw [blocks_mid] at h
  have h1 := (List.nodup_append.1 (List.nodup_append.1 h).1).2.1
  intro k hk e
  subst e
  simp [Rw.blocks, hk] at h1

/-- A file whose slice is another, and stored. -/
theorem file_store {W w3 : World} {r : Rw} {v' : Value} {data' : List UInt8} (hf : FileOk W r) (hnb : ∀ k, r.dv.ownBlock = some k → k ≠ r.bf) (a1 : OwnB w3 v' data') (a2 : Frm (fun k => r.dv.ownBlock = some k) W w3)
    (a3 : v'.ownBlock = r.dv.ownBlock ∨ v'.ownBlock = some W.heap.size) :
    FileOk (w3.setCell ⟨r.bf, 0, none⟩ v') ⟨r.name, r.bf, v', ⟨data', r.f.lasts⟩⟩ ∧ Frm (fun k => k ∈ r.blocks) W (w3.setCell ⟨r.bf, 0, none⟩ v') ∧
      (∀ k ∈ (⟨r.name, r.bf, v', ⟨data', r.f.lasts⟩⟩ : Rw).blocks, k ∈ r.blocks ∨ W.heap.size ≤ k) ∧ (⟨r.name, r.bf, v', ⟨data', r.f.lasts⟩⟩ : Rw).blocks.Nodup := by
  have hbf := lt_of_heap hf.1
  have hne : ∀ k, v'.ownBlock = some k → k ≠ r.bf := by
    intro k hk
    rcases a3 with h | h
    · exact hnb k (h ▸ hk)
    · rw [h] at hk; cases hk; omega
  have hb3 : w3.heap[r.bf]? = some (.cells #[r.dv, .int .i64 r.f.lasts] 67 (0, 0)) := a2.keep hf.1 (fun e => hnb _ e rfl)
  refine ⟨⟨?_, ?_⟩, ?_, ?_, ?_⟩
  · rw [heap_setCell_eq hb3]; rfl
  · exact a1.of_eq (fun k hk => heap_setCell_ne w3 _ _ _ (hne k hk))
  · exact (a2.mono (T := fun k => k ∈ r.blocks) (fun k _ hk => by simp [Rw.blocks, hk])).setCell (fun _ => by simp [Rw.blocks]) _
  · intro k hk
    simp only [Rw.blocks, List.mem_cons, Option.mem_toList] at hk ⊢
    rcases hk with rfl | hk
    · exact .inl (.inl rfl)
    · rcases a3 with h | h
      · exact .inl (.inr (h ▸ hk))
      · rw [h] at hk; cases hk; exact .inr (Nat.le_refl _)
  · cases hv : v'.ownBlock with
    | none => simp [Rw.blocks, hv]
    | some k => simp [Rw.blocks, hv]; exact fun e => hne k hv e.symm

theorem MD.Ok.put {D : MD} (h : D.Ok) {p q : List Rw} {r : Rw} (hfiles : D.files = (p ++ r :: q).map nf) {f : MF} (hl : f.lasts ≤ f.data.length) (hu : MD.used D.files + f.data.length ≤ D.room + r.f.data.length) (fu : Option Nat) (hfu : ∀ n, fu = some n → n ≤ 9223372036854775807) :
    MD.Ok ⟨D.room, p.map nf ++ (r.name, f) :: q.map nf, fu⟩ := by
  have hr : (r.name, r.f) ∈ D.files := by rw [hfiles]; simp [nf]
  have hmem : ∀ x ∈ p.map nf ++ (r.name, f) :: q.map nf, x = (r.name, f) ∨ x ∈ D.files := by
    intro x hx
    rw [hfiles]
    simp only [List.mem_append, List.mem_cons] at hx
    rcases hx with hx | rfl | hx
    · exact .inr (by simp only [List.map_append, List.mem_append]; exact .inl hx)
    · exact .inl rfl
    · exact .inr (by simp only [List.map_append, List.map_cons, List.mem_append, List.mem_cons]; exact .inr (.inr hx))
  refine ⟨h.room, ?_, ?_, ?_, ?_, hfu⟩
  · rw [hfiles] at hu
    rw [List.map_append, used_append, List.map_cons, used_cons] at hu
    show MD.used (p.map nf ++ (r.name, f) :: q.map nf) ≤ D.room
    rw [used_append, used_cons]
    simp only at hu ⊢
    omega
  · have := h.many
    rw [hfiles] at this
    simpa using this
  · intro x hx
    rcases hmem x hx with rfl | hx
    · exact h.names (r.name, r.f) hr
    · exact h.names _ hx
  · intro x hx
    rcases hmem x hx with rfl | hx
    · exact hl
    · exact h.lasts _ hx

/-- A disk, one of whose files has got other bytes. -/
theorem disk_store {w W w3 : World} {bd bm : Nat} {fused : Bool} {left : Int} {D : MD} {p q : List Rw} {r : Rw} {v' : Value} {data' : List UInt8}
    (h1 : w.heap[bd]? = some (.cells #[.int .i64 D.room, .map (some bm), .bool fused, .int .i64 left] 60 (0, 0))) (h2 : fuseCells D.fuse fused left)
    (h3 : MapB Try.prog 9 w bm ((p ++ r :: q).map Rw.kv)) (h4 : ∀ x ∈ p ++ r :: q, FileOk w x) (hnd : (bd :: bm :: (p ++ r :: q).flatMap Rw.blocks).Nodup)
    (hfiles : D.files = (p ++ r :: q).map nf) (hok : D.Ok) (g : Grew w W)
    (a1 : OwnB w3 v' data') (a2 : Frm (fun k => r.dv.ownBlock = some k) W w3) (a3 : v'.ownBlock = r.dv.ownBlock ∨ v'.ownBlock = some W.heap.size)
    (hl : r.f.lasts ≤ data'.length) (hu : MD.used D.files + data'.length ≤ D.room + r.f.data.length) :
    ∃ S', DiskAt (w3.setCell ⟨r.bf, 0, none⟩ v') bd { D with files := MD.put D.files r.name ⟨data', r.f.lasts⟩ } S' ∧ Frm (· ∈ bd :: bm :: (p ++ r :: q).flatMap Rw.blocks) w (w3.setCell ⟨r.bf, 0, none⟩ v') ∧
      ∀ k ∈ S', k ∈ bd :: bm :: (p ++ r :: q).flatMap Rw.blocks ∨ w.heap.size ≤ k := by
  have hn := (mid_names (names_of_kv h3.distinct)).1
  have hf := (h4 r (by simp)).keepG g
  obtain ⟨b1, b2, b3, b4⟩ := file_store hf (nb_of_nodup hnd) a1 a2 a3
  have hD' : MD.Ok { D with files := MD.put D.files r.name ⟨data', r.f.lasts⟩ } := by
    rw [hfiles, put_rows hn]
    exact hok.put hfiles hl hu D.fuse hok.fuse
  have hd := disk_mid (w' := w3.setCell ⟨r.bf, 0, none⟩ v') (D' := { D with files := MD.put D.files r.name ⟨data', r.f.lasts⟩ }) (r' := ⟨r.name, r.bf, v', ⟨data', r.f.lasts⟩⟩)
    (g.keepG h1) h2 (h3.keep g (fun f => f)) (fun x hx => (h4 x hx).keepG g) hnd rfl rfl b2 b1 b3 b4 hD' rfl rfl (by rw [hfiles]; show MD.put _ _ _ = _; rw [put_rows hn]; simp [nf])
  refine ⟨_, hd.1, Grew.trans g (b2.mono (fun k _ hk => ?_)), fun k hk => (hd.2 k hk).imp id (fun h => Nat.le_trans g.size h)⟩
  rw [blocks_mid]
  simp only [List.mem_append]
  exact .inl (.inr hk)

/-- A disk with a new file, in pieces. -/
theorem disk_new {w w2 w3 : World} {bd bm bf : Nat} {fused : Bool} {left : Int} {D : MD} {rows : List Rw} {nm : ByteArray}
    (h1 : w.heap[bd]? = some (.cells #[.int .i64 D.room, .map (some bm), .bool fused, .int .i64 left] 60 (0, 0)))
    (h3 : MapB Try.prog 9 w bm (rows.map Rw.kv)) (h4 : ∀ x ∈ rows, FileOk w x) (hnd : (bd :: bm :: rows.flatMap Rw.blocks).Nodup)
    (hfiles : D.files = rows.map nf) (hok : D.Ok) (hnm : nm.size ≤ 64) (hmany : rows.length < 4096) (g : Grew w w2) (hbf : w.heap.size ≤ bf)
    (hb : w2.heap[bf]? = some (.cells #[.slice none 0 0, .int .i64 0] 67 (0, 0))) (f : Frm (fun k => k = bm) w2 w3) (hm : MapB Try.prog 9 w3 bm (rows.map Rw.kv ++ [(.string nm, .pointer (some ⟨bf, 0, none⟩))])) :
    w3.heap[bd]? = some (.cells #[.int .i64 D.room, .map (some bm), .bool fused, .int .i64 left] 60 (0, 0)) ∧
    MapB Try.prog 9 w3 bm ((rows ++ [Rw.mk nm bf (.slice none 0 0) ⟨[], 0⟩]).map Rw.kv) ∧ (∀ x ∈ rows ++ [Rw.mk nm bf (.slice none 0 0) ⟨[], 0⟩], FileOk w3 x) ∧
    (bd :: bm :: (rows ++ [Rw.mk nm bf (.slice none 0 0) ⟨[], 0⟩]).flatMap Rw.blocks).Nodup ∧ MD.Ok { D with files := D.files ++ [(nm, ⟨[], 0⟩)] } := by
  have hbm : bm < w.heap.size := h3.lt
  have hnd' := hnd
  rw [List.nodup_cons, List.nodup_cons] at hnd'
  obtain ⟨n1, n2, n3⟩ := hnd'
  have hlt : ∀ k ∈ bd :: bm :: rows.flatMap Rw.blocks, k < w.heap.size := by
    intro k hk
    simp only [List.mem_cons, List.mem_flatMap] at hk
    rcases hk with rfl | rfl | ⟨x, hx, hk⟩
    · exact lt_of_heap h1
    · exact hbm
    · have := h4 x hx
      simp only [Rw.blocks, List.mem_cons, Option.mem_toList] at hk
      rcases hk with rfl | hk
      · exact lt_of_heap this.1
      · exact this.2.lt k hk
  refine ⟨f.keep (g.keepG h1) (fun e => n1 (by simp [e])), by simpa [Rw.kv] using hm, ?_, ?_, ?_⟩
  · intro x hx
    simp only [List.mem_append, List.mem_singleton] at hx
    rcases hx with hx | rfl
    · refine ((h4 x hx).keepG g).keep f (fun k hk e => n2 ?_)
      rw [← e]; simp only [List.mem_flatMap]; exact ⟨x, hx, hk⟩
    · exact ⟨f.keep hb (fun e => by have e' : bf = bm := e; omega), Own.nil w3 5 1⟩
  · have h0 := nodup_mid (pre := bd :: bm :: rows.flatMap Rw.blocks) (x := []) (post := []) (y := [bf]) (n := w.heap.size) (by simpa using hnd) (by simpa using hlt) (by simp) (by simp [hbf])
    simpa [Rw.blocks, Value.ownBlock] using h0
  · refine ⟨hok.room, ?_, ?_, ?_, ?_, hok.fuse⟩
    · show MD.used (D.files ++ _) ≤ D.room
      rw [used_append]; have := hok.used; simp [MD.used] at this ⊢; omega
    · show (D.files ++ _).length ≤ 4096
      rw [hfiles]; simp; omega
    · intro x hx
      simp only [List.mem_append, List.mem_singleton] at hx
      rcases hx with hx | rfl
      · exact hok.names x hx
      · exact hnm
    · intro x hx
      simp only [List.mem_append, List.mem_singleton] at hx
      rcases hx with hx | rfl
      · exact hok.lasts x hx
      · exact Nat.le_refl _

end Go.Proofs.Ytjcjajpndchfdaa
