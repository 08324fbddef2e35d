/- The heap library of this seat: what blocks hold, what a call may turn ('Frm'), maps and slices of bytes as lists. No program in sight but for the types' numbers. -/
import Derived.Test.YtccknjnbpccmhaaRows
import Derived.WalkKit
import Derived.ProofKit
import Derived.WalkLawsBesides
import Derived.WalkSpells
import Derived.Maps.RangeRun
import Derived.Maps.Keyed
import Derived.Deep.QuietTactic
import Derived.BigQuiet
import Derived.StillTailTactics
import Derived.Deep.RegionHeld3
import Derived.Lib.Hide
import Derived.Deep.LoopGhost
import Derived.Deep.RegionLaw
import Derived.Lib.SlBytesConst
namespace Go.Proofs.Ytccknjnbpccmhaa
open Go.ChangeMaps (setBlock)
open Go.Maps (Keyed)
open Go.RowKit

/-! ### What a call may turn -/

/-- w' is w, but for the blocks S and for new blocks. -/
structure Frm (S : Nat → Prop) (w w' : World) : Prop where
  os : w'.os = w.os
  tape : w'.tape = w.tape
  output : w'.output = w.output
  size : w.heap.size ≤ w'.heap.size
  block : ∀ k, k < w.heap.size → ¬ S k → w'.heap[k]? = w.heap[k]?

/-- Nothing that was there has turned. -/
abbrev Grew (w w' : World) : Prop := Frm (fun _ => False) w w'

theorem lt_of_heap {w : World} {k : Nat} {o : Obj} (h : w.heap[k]? = some o) : k < w.heap.size := (Array.getElem?_eq_some_iff.1 h).1

theorem Frm.refl (S : Nat → Prop) (w : World) : Frm S w w := ⟨rfl, rfl, rfl, Nat.le_refl _, fun _ _ _ => rfl⟩

theorem Frm.trans {S T : Nat → Prop} {a b c : World} (h : Frm S a b) (g : Frm T b c) (hT : ∀ k, k < a.heap.size → T k → S k) : Frm S a c :=
  ⟨g.os.trans h.os, g.tape.trans h.tape, g.output.trans h.output, Nat.le_trans h.size g.size, fun k hk hS =>
    (g.block k (Nat.lt_of_lt_of_le hk h.size) (fun t => hS (hT k hk t))).trans (h.block k hk hS)⟩

theorem Frm.mono {S T : Nat → Prop} {a b : World} (h : Frm S a b) (hT : ∀ k, k < a.heap.size → S k → T k) : Frm T a b :=
  ⟨h.os, h.tape, h.output, h.size, fun k hk hS => h.block k hk (fun s => hS (hT k hk s))⟩

theorem Frm.of_grew {S : Nat → Prop} {a b : World} (h : Grew a b) : Frm S a b := h.mono (fun _ _ f => f.elim)

theorem Grew.trans {S : Nat → Prop} {a b c : World} (h : Grew a b) (g : Frm S b c) : Frm S a c := (Frm.of_grew h).trans g (fun _ _ s => s)
theorem Frm.grew {S : Nat → Prop} {a b c : World} (h : Frm S a b) (g : Grew b c) : Frm S a c := h.trans g (fun _ _ f => f.elim)

theorem Frm.drew {S : Nat → Prop} {a w : World} (h : Frm S a w) : Frm S a w.drew := ⟨h.os, h.tape, h.output, h.size, h.block⟩
theorem Frm.drewN {S : Nat → Prop} {a w : World} (h : Frm S a w) (n : Nat) : Frm S a (w.drewN n) := ⟨h.os, h.tape, h.output, h.size, h.block⟩

theorem heap_alloc_old' (w : World) (o : Obj) {k : Nat} (h : k < w.heap.size) : (w.alloc o).heap[k]? = w.heap[k]? := Below.heap_alloc w o k h
theorem heap_alloc_new' (w : World) (o : Obj) : (w.alloc o).heap[w.heap.size]? = some o := by
  show (w.heap.push o)[w.heap.size]? = _
  simp

theorem grew_alloc (w : World) (o : Obj) : Grew w (w.alloc o) :=
  ⟨rfl, rfl, rfl, by simp, fun _ hk _ => heap_alloc_old' w o hk⟩

theorem Frm.alloc {S : Nat → Prop} {a w : World} (h : Frm S a w) (o : Obj) : Frm S a (w.alloc o) := h.grew (grew_alloc w o)

theorem Frm.setCell {S : Nat → Prop} {a w : World} (h : Frm S a w) {p : Addr} (hp : p.block < a.heap.size → S p.block) (u : Value) : Frm S a (w.setCell p u) :=
  h.trans (T := fun k => k = p.block) ⟨rfl, rfl, rfl, by simp, fun k _ hk => Below.heap_setCell w p u k hk⟩ (fun k hk e => by subst e; exact hp hk)

theorem heap_setBlock_ne (w : World) (b : Nat) (o : Obj) {k : Nat} (h : k ≠ b) : (setBlock w b o).heap[k]? = w.heap[k]? := by
  unfold setBlock
  simp only [Array.getElem?_setIfInBounds]
  rw [if_neg (Ne.symm h)]

theorem heap_setBlock_eq (w : World) (b : Nat) (o : Obj) (h : b < w.heap.size) : (setBlock w b o).heap[b]? = some o := by
  unfold setBlock
  simp [h]

theorem frm_setBlock (w : World) (b : Nat) (o : Obj) : Frm (fun k => k = b) w (setBlock w b o) :=
  ⟨rfl, rfl, rfl, by simp [setBlock], fun _ _ hk => heap_setBlock_ne w b o hk⟩

theorem Frm.keep {S : Nat → Prop} {w w' : World} (h : Frm S w w') {k : Nat} {o : Obj} (hk : w.heap[k]? = some o) (hS : ¬ S k) : w'.heap[k]? = some o :=
  (h.block k (lt_of_heap hk) hS).trans hk

theorem Frm.keepG {w w' : World} (h : Grew w w') {k : Nat} {o : Obj} (hk : w.heap[k]? = some o) : w'.heap[k]? = some o := h.keep hk (fun f => f)

theorem Frm.below {w w' : World} (h : Grew w w') : Below w.heap.size w w' := ⟨h.os, h.tape, h.output, h.size, fun k hk => h.block k hk (fun f => f)⟩

theorem frm_grownBy {w w' : World} {row : Option Nat} (h : w.grownBy w' row) : Frm (fun k => row = some k) w w' :=
  ⟨h.os, h.tape, h.output, h.size, fun k hk hne => h.block k hk (fun e => hne e.symm)⟩

/-! ### Cells off a block -/

theorem cell_of {w : World} {b : Nat} {c : Array Value} {t : TypeId} {fr : Nat × Nat} (h : w.heap[b]? = some (.cells c t fr)) (o : Nat) : w.cell? ⟨b, o, none⟩ = c[o]? := by
  simp [World.cell?, h]
theorem cell_is {w : World} {b : Nat} {c : Array Value} {t : TypeId} {fr : Nat × Nat} (h : w.heap[b]? = some (.cells c t fr)) (o : Nat) (v : Value) (hv : c[o]? = some v) : w.cell? ⟨b, o, none⟩ = some v := by
  rw [cell_of h]; exact hv
theorem frozen_of {w : World} {b : Nat} {c : Array Value} {t : TypeId} (h : w.heap[b]? = some (.cells c t (0, 0))) (o : Nat) : w.frozen? ⟨b, o, none⟩ = false := by
  simp [World.frozen?, h]
theorem heap_setCell_eq {w : World} {b : Nat} {c : Array Value} {t : TypeId} {fr : Nat × Nat} (h : w.heap[b]? = some (.cells c t fr)) (o : Nat) (v : Value) :
    (w.setCell ⟨b, o, none⟩ v).heap[b]? = some (.cells (c.setIfInBounds o v) t fr) := by
  simp [World.setCell, Array.getElem?_modify, h]
theorem heap_setCell_ne (w : World) (b o : Nat) (v : Value) {k : Nat} (h : k ≠ b) : (w.setCell ⟨b, o, none⟩ v).heap[k]? = w.heap[k]? :=
  Below.heap_setCell w ⟨b, o, none⟩ v k h

theorem Frm.cellG {w w' : World} (g : Grew w w') {a : Addr} {v : Value} (h : w.cell? a = some v) : w'.cell? a = some v := by
  have hlt := World.block_lt_of_cell? w a h
  rw [World.cell?_of_block (w := w) (g.block a.block hlt (fun f => f))]; exact h

/-! ### The worlds that a region which makes memory, but turns none, may come to -/

/-- A world that has grown out of w0. -/
structure Ext (w0 : World) where
  w : World
  h : Grew w0 w
instance (w0 : World) : Nonempty (Ext w0) := ⟨⟨w0, Frm.refl _ w0⟩⟩

theorem ext_cell {w : World} {b : Nat} {c : Array Value} {t : TypeId} {fr : Nat × Nat} (h : w.heap[b]? = some (.cells c t fr)) (o : Nat) (v : Value) (hv : c[o]? = some v) :
    ∀ s : Ext w, s.w.cell? ⟨b, o, none⟩ = some v := fun s => by rw [cell_of (s.h.keep h (fun f => f))]; exact hv

theorem ext_frozen {w : World} {b : Nat} {c : Array Value} {t : TypeId} (h : w.heap[b]? = some (.cells c t (0, 0))) (o : Nat) :
    ∀ s : Ext w, s.w.frozen? ⟨b, o, none⟩ = false := fun s => frozen_of (s.h.keep h (fun f => f)) o

/-- A region that draws its order, whose operations only read, whose callees turn nothing that was there: one walk, in the text's order. -/
theorem wp_region_ext {P : Program} {l : List Oper} {id : Nat} {Q : Exit → Act → World → Prop} {a : Act} {w : World} (s : Ext w) (hm : P.follows .mixedOrders = true) (hB : Region.lexB .any l.toArray = true)
    (h : wpQuiet P l.toArray (fun w' => ∃ s : Ext w, w' = s.w) (fun a' => ∀ s : Ext w, Q .normal a' s.w) l a) : (Code.region id l.toArray true).wp P Q a s.w := by
  refine wp_region_quiet (C := fun w' => ∃ s : Ext w, w' = s.w) hm hB ⟨⟨_, s.h.drew⟩, rfl⟩ ?_
  have : (fun a' => ∀ w', (∃ s : Ext w, w' = s.w) → Q .normal a' w') = (fun a' => ∀ s : Ext w, Q .normal a' s.w) := by
    funext a'
    exact propext ⟨fun h s => h _ ⟨s, rfl⟩, fun h w' ⟨s, hs⟩ => hs ▸ h s⟩
  rw [this]
  simpa using h

/-- A goal at a world, as one at a world that has grown out of it. -/
theorem wp_ext {P : Program} {c : Code} {Q : Exit → Act → World → Prop} {a : Act} {w : World} (h : ∀ s : Ext w, c.wp P Q a s.w) : c.wp P Q a w := h ⟨w, Frm.refl _ w⟩

theorem Calls.ext {P : Program} {w : World} {s : Ext w} {f : FuncId} {args : Array Value} {v : Value} (h : Calls P f args s.w fun e w' => e = .returned v ∧ Grew s.w w') :
    Calls P f args s.w fun e w'' => e = .returned v ∧ ∃ s' : Ext w, w'' = s'.w :=
  h.mono fun _ w' ⟨he, hg⟩ => ⟨he, ⟨w', Grew.trans s.h hg⟩, rfl⟩

/-! ### Maps, as lists of keys and values in the order of their making -/

variable {P : Program} {k : TypeId}

/-- Block b is a map with these entries. -/
def MapB (P : Program) (k : TypeId) (w : World) (b : Nat) (kv : List (Value × Value)) : Prop :=
  ∃ es clock, w.heap[b]? = some (.map es clock) ∧ MapKept.Stamped es clock ∧ (∀ e ∈ es.toList, ∃ l, keyOf P k e.key = some l) ∧ es.toList.map (fun e => (e.key, e.val)) = kv

theorem MapB.lt {w : World} {b : Nat} {kv : List (Value × Value)} (h : MapB P k w b kv) : b < w.heap.size := by
  obtain ⟨_, _, hb, _⟩ := h; exact lt_of_heap hb
theorem MapB.keep {S : Nat → Prop} {w w' : World} {b : Nat} {kv : List (Value × Value)} (h : MapB P k w b kv) (f : Frm S w w') (hS : ¬ S b) : MapB P k w' b kv := by
  obtain ⟨es, cl, hb, r⟩ := h; exact ⟨es, cl, f.keep hb hS, r⟩
theorem MapB.keepG {w w' : World} {b : Nat} {kv : List (Value × Value)} (h : MapB P k w b kv) (f : Grew w w') : MapB P k w' b kv := h.keep f (fun f => f)
theorem MapB.of_eq {w w' : World} {b : Nat} {kv : List (Value × Value)} (h : MapB P k w b kv) (e : w'.heap[b]? = w.heap[b]?) : MapB P k w' b kv := by
  obtain ⟨es, cl, hb, r⟩ := h; exact ⟨es, cl, e.trans hb, r⟩
theorem MapB.distinct {w : World} {b : Nat} {kv : List (Value × Value)} (h : MapB P k w b kv) : kv.Pairwise (fun x y => x.1 ≠ y.1) := by
  obtain ⟨es, cl, hb, hs, _, rfl⟩ := h
  rw [List.pairwise_map]
  exact ((MapKept.stamped_iff es cl).1 hs).2.2
theorem MapB.empty (w : World) : MapB P k (w.alloc (.map #[] 0)) w.heap.size [] :=
  ⟨#[], 0, heap_alloc_new' w _, MapKept.stamped_empty 0, by simp, rfl⟩

theorem map_len {w : World} {b : Nat} {kv : List (Value × Value)} {t e ty : TypeId} (h : MapB P k w b kv) (ht : P.underlying t = some (.map k e)) :
    (Builtin.len_ #[t] ty #[.map (some b)]).run P w = .ok (.int .i64 kv.length) w := by
  obtain ⟨es, cl, hb, _, _, rfl⟩ := h
  simp [Builtin.len_, run_underlying ht, MapKept.run_getObj_map hb, goInt]

/-- The list split at a key. -/
theorem split_at {kv : List (Value × Value)} {es : List MapEntry} {j : Nat} {e : MapEntry} (hm : es.map (fun e => (e.key, e.val)) = kv) (hj : es[j]? = some e) :
    kv = kv.take j ++ (e.key, e.val) :: kv.drop (j + 1) := by
  subst hm
  have hlt : j < (es.map (fun e => (e.key, e.val))).length := by
    have := (List.getElem?_eq_some_iff.1 hj).1; simpa using this
  have : (es.map (fun e => (e.key, e.val)))[j] = (e.key, e.val) := by
    have := (List.getElem?_eq_some_iff.1 hj).2; simp [this]
  rw [← this, List.getElem_cons_drop, List.take_append_drop]

theorem map_look {w : World} {b : Nat} {kv : List (Value × Value)} {t e : TypeId} {key z : Value} {kl : Lit} (h : MapB P k w b kv) (K : Keyed P k) (ht : P.underlying t = some (.map k e))
    (hz : (zeroValue e).run P w = .ok z w) (hkey : keyOf P k key = some kl) :
    (∃ pre v post, kv = pre ++ (key, v) :: post ∧ (Instr.lookup t (.map (some b)) key false).run P w = .ok v w) ∨
    ((∀ p ∈ kv, p.1 ≠ key) ∧ (Instr.lookup t (.map (some b)) key false).run P w = .ok z w) := by
  obtain ⟨es, cl, hb, hs, hk, hm⟩ := h
  rcases K.find w hkey es.toList hk with ⟨h1, h2⟩ | ⟨j, e0, h1, h2, h3⟩
  · right
    refine ⟨?_, ?_⟩
    · intro p hp
      rw [← hm] at hp
      obtain ⟨e, he, rfl⟩ := List.mem_map.1 hp
      exact h2 e he
    · simp [Instr.lookup, run_underlying ht, MapKept.run_getObj_map hb, K.check w _ hkey, h1, hz, Result.andThen]
  · left
    have hsp := split_at hm h2
    rw [h3] at hsp
    refine ⟨_, e0.val, _, hsp, ?_⟩
    · simp [Instr.lookup, run_underlying ht, MapKept.run_getObj_map hb, K.check w _ hkey, h1, Result.andThen]

theorem kv_unique {kv pre post pre' post' : List (Value × Value)} {key v v' : Value} (hd : kv.Pairwise (fun x y => x.1 ≠ y.1)) (h : kv = pre ++ (key, v) :: post) (h' : kv = pre' ++ (key, v') :: post') : v = v' := by
  have m1 : (key, v) ∈ kv := by rw [h]; simp
  have m2 : (key, v') ∈ kv := by rw [h']; simp
  rcases List.mem_iff_getElem.1 m1 with ⟨i, hi, ei⟩
  rcases List.mem_iff_getElem.1 m2 with ⟨j, hj, ej⟩
  rw [List.pairwise_iff_getElem] at hd
  rcases Nat.lt_trichotomy i j with hlt | rfl | hlt
  · exact absurd (by rw [ei, ej]) (hd i j hi hj hlt)
  · rw [ei] at ej; cases ej; rfl
  · exact absurd (by rw [ei, ej]) (hd j i hj hi hlt)

theorem split_unique {α β : Type} {l pre post pre' post' : List (α × β)} {key : α} {v v' : β} (hd : l.Pairwise (fun x y => x.1 ≠ y.1)) (h : l = pre ++ (key, v) :: post) (h' : l = pre' ++ (key, v') :: post') : pre = pre' ∧ v = v' ∧ post = post' := by
  have hlen : pre.length = pre'.length := by
    rw [List.pairwise_iff_getElem] at hd
    have hi : pre.length < l.length := by rw [h]; simp
    have hj : pre'.length < l.length := by rw [h']; simp
    have ei : (l[pre.length]).1 = key := by simp [h]
    have ej : (l[pre'.length]).1 = key := by simp [h']
    rcases Nat.lt_trichotomy pre.length pre'.length with hlt | he | hlt
    · exact absurd (ei.trans ej.symm) (hd _ _ hi hj hlt)
    · exact he
    · exact absurd (ej.trans ei.symm) (hd _ _ hj hi hlt)
  obtain ⟨h1, h2⟩ := List.append_inj (h.symm.trans h') hlen
  obtain ⟨h3, h4⟩ := List.cons.inj h2
  exact ⟨h1, (Prod.mk.inj h3).2, h4⟩

/-- What m[key] is, in every world in which the map's block is as it is. -/
theorem map_look' {w : World} {b : Nat} {kv : List (Value × Value)} {t e : TypeId} {key z : Value} {kl : Lit} (h : MapB P k w b kv) (K : Keyed P k) (ht : P.underlying t = some (.map k e))
    (hz : ∀ w, (zeroValue e).run P w = .ok z w) (hkey : keyOf P k key = some kl) :
    (∃ pre v post, kv = pre ++ (key, v) :: post ∧ ∀ W : World, W.heap[b]? = w.heap[b]? → (Instr.lookup t (.map (some b)) key false).run P W = .ok v W) ∨
    ((∀ p ∈ kv, p.1 ≠ key) ∧ ∀ W : World, W.heap[b]? = w.heap[b]? → (Instr.lookup t (.map (some b)) key false).run P W = .ok z W) := by
  rcases map_look h K ht (hz w) hkey with ⟨pre, v, post, h1, _⟩ | ⟨h1, _⟩
  · refine .inl ⟨pre, v, post, h1, fun W hW => ?_⟩
    rcases map_look (h.of_eq hW) K ht (hz W) hkey with ⟨pre', v', post', h1', hr⟩ | ⟨h1', _⟩
    · rw [kv_unique h.distinct h1 h1']; exact hr
    · exact absurd rfl (h1' (key, v) (by rw [h1]; simp))
  · refine .inr ⟨h1, fun W hW => ?_⟩
    rcases map_look (h.of_eq hW) K ht (hz W) hkey with ⟨pre', v', post', h1', hr⟩ | ⟨_, hr⟩
    · exact absurd rfl (h1 (key, v') (by rw [h1']; simp))
    · exact hr

theorem map_update {w : World} {b : Nat} {kv : List (Value × Value)} {t e : TypeId} {key : Value} {kl : Lit} (h : MapB P k w b kv) (K : Keyed P k) (ht : P.underlying t = some (.map k e))
    (hkey : keyOf P k key = some kl) (val : Value) :
    ∃ o, (Instr.mapUpdate t (.map (some b)) key val).run P w = .ok () (setBlock w b o) ∧
      ((∃ pre v post, kv = pre ++ (key, v) :: post ∧ MapB P k (setBlock w b o) b (pre ++ (key, val) :: post)) ∨
       ((∀ p ∈ kv, p.1 ≠ key) ∧ MapB P k (setBlock w b o) b (kv ++ [(key, val)]))) := by
  have hlt := h.lt
  obtain ⟨es, cl, hb, hs, hk, hm⟩ := h
  rcases K.find w hkey es.toList hk with ⟨h1, h2⟩ | ⟨j, e0, h1, h2, h3⟩
  · refine ⟨.map (es.push ⟨key, val, cl⟩) (cl + 1), ?_, .inr ⟨?_, _, _, heap_setBlock_eq w b _ hlt, MapKept.stamped_push hs h2, ?_, ?_⟩⟩
    · simp [Instr.mapUpdate, run_underlying ht, MapKept.run_getObj_map hb, K.check w false hkey, h1, MapKept.run_setObj_map _ hb, Result.andThen, setBlock]
    · intro p hp
      rw [← hm] at hp
      obtain ⟨e, he, rfl⟩ := List.mem_map.1 hp
      exact h2 e he
    · intro x hx
      simp only [Array.toList_push, List.mem_append, List.mem_singleton] at hx
      rcases hx with hx | rfl
      · exact hk x hx
      · exact ⟨_, hkey⟩
    · simp [← hm]
  · have hsp := split_at hm h2
    rw [h3] at hsp
    have hj : es[j]? = some e0 := by simpa using h2
    have hjl : j < es.size := (Array.getElem?_eq_some_iff.1 hj).1
    refine ⟨.map (es.modify j fun x => { x with key := key, val := val }) cl, ?_, .inl ⟨_, e0.val, _, hsp, _, _, heap_setBlock_eq w b _ hlt, ?_, ?_, ?_⟩⟩
    · have hst := K.stays w hkey
      simp [Instr.mapUpdate, run_underlying ht, MapKept.run_getObj_map hb, K.check w false hkey, h1, hj, h3, hst, MapKept.run_setObj_map _ hb, Result.andThen, setBlock]
    · refine MapKept.stamped_modify hs _ _ (fun _ _ => rfl) (fun x _ hx => ?_)
      rw [hj] at hx; cases hx; exact h3.symm
    · intro x hx
      rw [Array.toList_modify] at hx
      rcases List.mem_iff_getElem?.1 hx with ⟨i, hi⟩
      rw [List.getElem?_modify] at hi
      split at hi
      · subst_vars
        rw [h2] at hi
        obtain rfl := Option.some.inj hi
        exact ⟨_, hkey⟩
      · exact hk x (List.mem_of_getElem? (by simpa using hi))
    · rw [← hm, Array.toList_modify]
      apply List.ext_getElem?
      intro i
      simp only [List.getElem?_map, List.getElem?_modify]
      have hlj : ((es.toList.map fun e => (e.key, e.val)).take j).length = j := by simp; omega
      by_cases hij : j = i
      · subst hij
        rw [List.getElem?_append_right (by omega), hlj]
        simp [hj]
      · simp only [hij, if_false]
        by_cases hlt : i < j
        · rw [List.getElem?_append_left (by omega), List.getElem?_take, if_pos hlt]
          simp
        · rw [List.getElem?_append_right (by omega), hlj, List.getElem?_cons, if_neg (by omega), List.getElem?_drop]
          have : j + 1 + (i - j - 1) = i := by omega
          rw [this]
          simp

theorem map_delete {w : World} {b : Nat} {kv : List (Value × Value)} {t e ty kt : TypeId} {key : Value} {kl : Lit} (h : MapB P k w b kv) (K : Keyed P k) (ht : P.underlying t = some (.map k e))
    (hkey : keyOf P k key = some kl) :
    ∃ o, (Builtin.delete_ #[t, kt] ty #[.map (some b), key]).run P w = .ok (.tuple #[]) (setBlock w b o) ∧
      ((∃ pre v post, kv = pre ++ (key, v) :: post ∧ MapB P k (setBlock w b o) b (pre ++ post)) ∨
       ((∀ p ∈ kv, p.1 ≠ key) ∧ MapB P k (setBlock w b o) b kv)) := by
  have hlt := h.lt
  obtain ⟨es, cl, hb, hs, hk, hm⟩ := h
  rcases K.find w hkey es.toList hk with ⟨h1, h2⟩ | ⟨j, e0, h1, h2, h3⟩
  · refine ⟨.map es cl, ?_, .inr ⟨?_, es, cl, heap_setBlock_eq w b _ hlt, hs, hk, hm⟩⟩
    · simp [Builtin.delete_, run_underlying ht, MapKept.run_getObj_map hb, K.check w _ hkey, h1, MapKept.run_setObj_map _ hb, Result.andThen, setBlock]
    · intro p hp
      rw [← hm] at hp
      obtain ⟨e, he, rfl⟩ := List.mem_map.1 hp
      exact h2 e he
  · have hsp := split_at hm h2
    rw [h3] at hsp
    have hj : es[j]? = some e0 := by simpa using h2
    have hjl : j < es.size := (Array.getElem?_eq_some_iff.1 hj).1
    have hel : (es.eraseIdxIfInBounds j).toList = es.toList.eraseIdx j := by
      simp [Array.eraseIdxIfInBounds, hjl]
    refine ⟨.map (es.eraseIdxIfInBounds j) cl, ?_, .inl ⟨_, e0.val, _, hsp, _, _, heap_setBlock_eq w b _ hlt, MapKept.stamped_erase hs j, ?_, ?_⟩⟩
    · simp [Builtin.delete_, run_underlying ht, MapKept.run_getObj_map hb, K.check w _ hkey, h1, MapKept.run_setObj_map _ hb, Result.andThen, setBlock]
    · intro x hx
      rw [hel] at hx
      exact hk x (List.mem_of_mem_eraseIdx hx)
    · rw [hel, ← hm, List.eraseIdx_eq_take_drop_succ]
      simp

theorem wpList_mapPut {w : World} {ops : Array Oper} {rest : List Oper} {o : Oper} {a : Act} {Q : Exit → Act → World → Prop}
    (hg : o.guard = none) (m x v : Operand) (t e : TypeId) (hop : o.op = Op.mapUpdate t m x v) (K : Keyed P k) (ht : P.underlying t = some (.map k e)) (b : Nat) (kv : List (Value × Value))
    (hm : a.eval m = .map (some b)) (h : MapB P k w b kv) (key val : Value) (kl : Lit) (hx : a.eval x = key) (hv : a.eval v = val) (hkey : keyOf P k key = some kl)
    (hK : ∀ w', Frm (fun k => k = b) w w' → w'.heap.size = w.heap.size → ((∃ pre v0 post, kv = pre ++ (key, v0) :: post ∧ MapB P k w' b (pre ++ (key, val) :: post)) ∨ ((∀ p ∈ kv, p.1 ≠ key) ∧ MapB P k w' b (kv ++ [(key, val)]))) →
      wpList P ops Q rest (a.put o.dst undef) w') : wpList P ops Q (o :: rest) a w := by
  refine wpList_plain hg fun K' hK' => ?_
  obtain ⟨ob, hrun, hd⟩ := map_update h K ht hkey val
  unfold Oper.wp
  simp [execOp, hop, hm, hx, hv, hrun, Result.andThen]
  exact hK' _ _ (hK _ (frm_setBlock w b ob) (by simp [setBlock]) hd)

theorem wpList_mapDel {w : World} {ops : Array Oper} {rest : List Oper} {o : Oper} {a : Act} {Q : Exit → Act → World → Prop}
    (hg : o.guard = none) (m x : Operand) (t kt e : TypeId) (hop : o.op = Op.call { callee := Callee.builtin Builtin.delete, args := #[m, x], argTypes := #[t, kt] }) (K : Keyed P k) (ht : P.underlying t = some (.map k e)) (b : Nat) (kv : List (Value × Value))
    (hm : a.eval m = .map (some b)) (h : MapB P k w b kv) (key : Value) (kl : Lit) (hx : a.eval x = key) (hkey : keyOf P k key = some kl)
    (hK : ∀ w', Frm (fun k => k = b) w w' → w'.heap.size = w.heap.size → ((∃ pre v0 post, kv = pre ++ (key, v0) :: post ∧ MapB P k w' b (pre ++ post)) ∨ ((∀ p ∈ kv, p.1 ≠ key) ∧ MapB P k w' b kv)) →
      wpList P ops Q rest (a.put o.dst (.tuple #[])) w') : wpList P ops Q (o :: rest) a w := by
  refine wpList_plain hg fun K' hK' => ?_
  obtain ⟨ob, hrun, hd⟩ := map_delete (ty := o.type) (kt := kt) h K ht hkey
  unfold Oper.wp
  simp [execOp, hop, resolve, invoke, builtin, hm, hx, hrun, Result.andThen]
  exact hK' _ _ (hK _ (frm_setBlock w b ob) (by simp [setBlock]) hd)

/-- A range over map b goes on at iterator r: 'left' is still to come. -/
def RangeB (P : Program) (k : TypeId) (w : World) (r b : Nat) (kv left : List (Value × Value)) : Prop :=
  ∃ es clock since seen c0, w.heap[r]? = some (.mapIter (some b) since seen c0) ∧ since ≤ c0 ∧ w.heap[b]? = some (.map es clock) ∧ MapKept.Stamped es clock ∧ (∀ e ∈ es.toList, ∃ l, keyOf P k e.key = some l) ∧ es.toList.map (fun e => (e.key, e.val)) = kv ∧
    (∀ x ∈ es.toList, x.born < since) ∧ clock = c0 ∧ (leftOf es seen).toList.map (fun e => (e.key, e.val)) = left

theorem RangeB.map {w : World} {r b : Nat} {kv left : List (Value × Value)} (h : RangeB P k w r b kv left) : MapB P k w b kv := by
  obtain ⟨es, cl, since, seen, c0, _, _, h3, h4, h5, h6, _⟩ := h
  exact ⟨es, cl, h3, h4, h5, h6⟩
theorem RangeB.lt {w : World} {r b : Nat} {kv left : List (Value × Value)} (h : RangeB P k w r b kv left) : r < w.heap.size := by
  obtain ⟨es, cl, since, seen, c0, h, _⟩ := h
  exact lt_of_heap h
theorem RangeB.ne {w : World} {r b : Nat} {kv left : List (Value × Value)} (h : RangeB P k w r b kv left) : r ≠ b := by
  obtain ⟨es, cl, since, seen, c0, h1, _, h2, _⟩ := h
  intro e; subst e; rw [h1] at h2; cases h2
theorem RangeB.keep {S : Nat → Prop} {w w' : World} {r b : Nat} {kv left : List (Value × Value)} (h : RangeB P k w r b kv left) (f : Frm S w w') (hr : ¬ S r) (hb : ¬ S b) : RangeB P k w' r b kv left := by
  obtain ⟨es, cl, since, seen, c0, h1, h2, h3, h4⟩ := h
  exact ⟨es, cl, since, seen, c0, f.keep h1 hr, h2, f.keep h3 hb, h4⟩

theorem map_range {w : World} {b : Nat} {kv : List (Value × Value)} {t e : TypeId} (h : MapB P k w b kv) (ht : P.underlying t = some (.map k e)) :
    ∃ cl, (Instr.range t (.map (some b))).run P w = .ok (.pointer (some ⟨w.heap.size, 0, none⟩)) (w.alloc (.mapIter (some b) cl #[] cl)) ∧
      RangeB P k (w.alloc (.mapIter (some b) cl #[] cl)) w.heap.size b kv kv := by
  have hlt := h.lt
  obtain ⟨es, cl, hb, hs, hk, hm⟩ := h
  refine ⟨cl, ?_, es, cl, cl, #[], cl, heap_alloc_new' w _, Nat.le_refl _, (heap_alloc_old' w _ hlt).trans hb, hs, hk, hm, ((MapKept.stamped_iff es cl).1 hs).1, rfl, ?_⟩
  · simp [Instr.range, run_underlying ht, MapKept.run_getObj_map hb, newObj, Sem.run, Result.andThen]
  · rw [← hm]
    unfold leftOf
    rw [Array.toList_filter, List.filter_eq_self.2]
    simp

theorem map_next {w : World} {r b : Nat} {kv left : List (Value × Value)} (h : RangeB P k w r b kv left) (ty : TypeId) :
    (left = [] ∧ (Instr.next (.pointer (some ⟨r, 0, none⟩)) false ty).run P w = .ok (.tuple #[.bool false]) w) ∨
    ∃ pre x post w', left = pre ++ x :: post ∧ x ∈ kv ∧ (Instr.next (.pointer (some ⟨r, 0, none⟩)) false ty).run P w = .ok (.tuple #[.bool true, x.1, x.2]) w' ∧
      Frm (fun k => k = r) w w' ∧ w'.heap.size = w.heap.size ∧ RangeB P k w' r b kv (pre ++ post) ∧ (Instr.entry (.pointer (some ⟨r, 0, none⟩))).run P w' = .ok (.tuple #[x.1, x.2]) w' := by
  have hlt := h.lt
  have hne := h.ne
  obtain ⟨es, cl, since, seen, c0, h1, h2, h3, h4, h5, h6, h7, h8, h9⟩ := h
  have hst := (MapKept.stamped_iff es cl).1 h4
  rcases run_next_at (P := P) w ty r b since c0 seen es cl h1 h3 h7 h2 with ⟨h0, hrun⟩ | ⟨e, he, w1, hw1, hrun⟩
  · left
    refine ⟨?_, hrun⟩
    rw [← h9]
    have : leftOf es seen = #[] := Array.eq_empty_of_size_eq_zero h0
    rw [this]; rfl
  · right
    obtain ⟨l1, l2, hl⟩ := List.append_of_mem he
    have hmem : e ∈ es.toList := by
      have := he; unfold leftOf at this; simp at this; simpa using this.1
    have hw1h : w1.heap = w.heap := by rcases hw1 with rfl | rfl <;> rfl
    have hf : Frm (fun k => k = r) w (setBlock w1 r (.mapIter (some b) since (seen.push e.born) cl)) := by
      have hb1 := frm_setBlock w1 r (.mapIter (some b) since (seen.push e.born) cl)
      rcases hw1 with rfl | rfl
      · exact hb1
      · exact ((Frm.refl _ w).drew).trans hb1 (fun _ _ h => h)
    have hr' : (setBlock w1 r (.mapIter (some b) since (seen.push e.born) cl)).heap[r]? = some (.mapIter (some b) since (seen.push e.born) cl) := heap_setBlock_eq w1 r _ (by rw [hw1h]; exact hlt)
    have hb' : (setBlock w1 r (.mapIter (some b) since (seen.push e.born) cl)).heap[b]? = some (.map es cl) := hf.keep h3 (fun e => hne e.symm)
    refine ⟨l1.map (fun e => (e.key, e.val)), (e.key, e.val), l2.map (fun e => (e.key, e.val)), _, ?_, ?_, hrun, hf, ?_, ?_, ?_⟩
    · rw [← h9, hl]; simp
    · rw [← h6]; exact List.mem_map.2 ⟨e, hmem, rfl⟩
    · simp [setBlock, hw1h]
    · refine ⟨es, cl, since, seen.push e.born, cl, hr', by omega, hb', h4, h5, h6, h7, rfl, ?_⟩
      have hnd : ((leftOf es seen).toList.map (·.born)).Nodup := by
        unfold leftOf
        rw [Array.toList_filter]
        exact List.Nodup.sublist (List.Sublist.map _ List.filter_sublist) hst.2.1
      have hfl : (leftOf es (seen.push e.born)).toList = (leftOf es seen).toList.filter (fun x => !(x.born == e.born)) := by
        unfold leftOf
        rw [Array.toList_filter, Array.toList_filter, List.filter_filter]
        apply List.filter_congr
        intro x _
        simp only [Array.contains_push, Bool.not_or, Bool.and_comm]
      rw [hfl, hl]
      rw [hl] at hnd
      simp only [List.map_append, List.map_cons, List.nodup_append, List.nodup_cons] at hnd
      obtain ⟨_, ⟨n1, _⟩, n2⟩ := hnd
      rw [List.filter_append, List.filter_cons]
      simp only [beq_self_eq_true, Bool.not_true, Bool.false_eq_true, if_false]
      rw [List.filter_eq_self.2, List.filter_eq_self.2, List.map_append]
      · intro x hx
        simp only [Bool.not_eq_true', beq_eq_false_iff_ne]
        intro hxe
        exact n1 (hxe ▸ List.mem_map.2 ⟨x, hx, rfl⟩)
      · intro x hx
        simp only [Bool.not_eq_true', beq_eq_false_iff_ne]
        intro hxe
        exact n2 _ (List.mem_map.2 ⟨x, hx, rfl⟩) _ (List.mem_cons_self) hxe
    · exact run_entry_at (P := P) _ r b since seen es cl e hr' hb' hmem hst.2.1

theorem wpList_range {w : World} {ops : Array Oper} {rest : List Oper} {o : Oper} {a : Act} {Q : Exit → Act → World → Prop}
    (hg : o.guard = none) (m : Operand) (t e : TypeId) (hop : o.op = Op.range t m) (ht : P.underlying t = some (.map k e)) (b : Nat) (kv : List (Value × Value))
    (hm : a.eval m = .map (some b)) (h : MapB P k w b kv)
    (hK : ∀ w', Grew w w' → w'.heap.size = w.heap.size + 1 → RangeB P k w' w.heap.size b kv kv → wpList P ops Q rest (a.put o.dst (.pointer (some ⟨w.heap.size, 0, none⟩))) w') : wpList P ops Q (o :: rest) a w := by
  refine wpList_plain hg fun K' hK' => ?_
  obtain ⟨cl, hrun, hd⟩ := map_range h ht
  unfold Oper.wp
  simp [execOp, hop, hm, hrun, Result.andThen]
  exact hK' _ _ (hK _ (grew_alloc w _) (by simp) hd)

theorem wpList_next {w : World} {ops : Array Oper} {rest : List Oper} {o : Oper} {a : Act} {Q : Exit → Act → World → Prop}
    (hg : o.guard = none) (it : Operand) (hop : o.op = Op.next it false) (r b : Nat) (kv left : List (Value × Value))
    (hit : a.eval it = .pointer (some ⟨r, 0, none⟩)) (h : RangeB P k w r b kv left)
    (hDone : left = [] → wpList P ops Q rest (a.put o.dst (.tuple #[.bool false])) w)
    (hMore : ∀ pre x y post w', left = pre ++ (x, y) :: post → (x, y) ∈ kv → Frm (fun k => k = r) w w' → w'.heap.size = w.heap.size → RangeB P k w' r b kv (pre ++ post) →
      (Instr.entry (.pointer (some ⟨r, 0, none⟩))).run P w' = .ok (.tuple #[x, y]) w' → wpList P ops Q rest (a.put o.dst (.tuple #[.bool true, x, y])) w') : wpList P ops Q (o :: rest) a w := by
  refine wpList_plain hg fun K' hK' => ?_
  unfold Oper.wp
  rcases map_next h o.type with ⟨h0, hrun⟩ | ⟨pre, x, post, w', h1, h2, hrun, h3, h4, h5, h6⟩
  · simp [execOp, hop, hit, hrun, Result.andThen]
    exact hK' _ _ (hDone h0)
  · simp [execOp, hop, hit, hrun, Result.andThen]
    exact hK' _ _ (hMore pre x.1 x.2 post w' h1 h2 h3 h4 h5 h6)

end Go.Proofs.Ytccknjnbpccmhaa
