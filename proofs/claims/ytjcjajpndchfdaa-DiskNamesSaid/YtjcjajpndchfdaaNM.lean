/- Disk.Names: the files' names, sorted. -/
import Derived.Test.YtjcjajpndchfdaaIter
import Derived.Test.YtjcjajpndchfdaaFR
namespace Go.Proofs.Ytjcjajpndchfdaa
open Go.RowKit Go.Maps

/-- the names, sorted -/
def MD.names (D : MD) : List ByteArray := ((D.files.map fun p => p.1.data.toList).mergeSort leB).map fun l => ⟨l.toArray⟩
theorem MD.names_length (D : MD) : (MD.names D).length = D.files.length := by simp [MD.names]

def noElem : Value → Option (DataW Unit × List MemPlace) := fun _ => some (.nil, [])

theorem MapB.owns {P : Program} {k : TypeId} {w : World} {b : Nat} {kv : List (Value × Value)} (h : MapB P k w b kv) (hn : kv.length ≤ maxLen) :
    w.ownsMap P k noElem b kv.length (.map ((kv.map fun p => ((keyOf P k p.1).getD (.bool false), DataW.nil)).foldr DataW.insert [])) := by
  obtain ⟨es, cl, hb, hs, hk, rfl⟩ := h
  refine ⟨es, cl, hb, ⟨by simpa using hn, hs, fun x hx => ?_⟩, by simp, ?_⟩
  · obtain ⟨l, hl⟩ := hk x hx
    exact ⟨(l, .nil), by simp [WideElems.rd, hl, noElem]⟩
  · congr 2
    rw [List.map_map]
    apply List.map_congr_left
    intro x hx
    obtain ⟨l, hl⟩ := hk x hx
    simp [WideElems.rg, WideElems.rd, hl, noElem]

theorem rows_keys (rows : List Rw) (h : ∀ r ∈ rows, r.name.size ≤ 64) :
    (strKeys (.map (((rows.map Rw.kv).map fun p => ((keyOf Try.prog 9 p.1).getD (.bool false), (DataW.nil : DataW Unit))).foldr DataW.insert []))).Perm (rows.map fun r => r.name.data.toList) := by
  have hp := (WideShapes.sorted_perm ((rows.map Rw.kv).map fun p => ((keyOf Try.prog 9 p.1).getD (.bool false), (DataW.nil : DataW Unit)))).map fun p => strOf p.1
  refine List.Perm.trans hp (List.Perm.of_eq ?_)
  rw [List.map_map, List.map_map]
  apply List.map_congr_left
  intro r hr
  simp [Rw.kv, keyS (h r hr), strOf]

theorem own_of_ownsRow {w : World} {base size n : Nat} {e : TypeId} {v : Value} {xs : List Value} (h : w.ownsRow base e size v n xs) : Own w e size v n xs ∧ ∀ k, v.ownBlock = some k → base ≤ k := by
  refine ⟨⟨h.1, ?_⟩, fun k hk => (h.lt k hk).1⟩
  rcases h.2 with h | ⟨g, cap, cur, h1, h2, h3, h4, h5, h6, h7⟩
  · exact .inl h
  · exact .inr ⟨g, cap, cur, h1, h3, h4, by omega, h5, h7⟩

theorem grew_of_below {w w' : World} (h : Below w.heap.size w w') : Grew w w' := ⟨h.os, h.tape, h.output, h.size, fun k hk _ => h.block k hk⟩

set_option maxRecDepth 100000 in
set_option maxHeartbeats 1000000 in
theorem dNames_spec (w : World) (bd : Nat) (D : MD) (S : List Nat) (hD : DiskAt w bd D S) :
    Calls Try.prog 21 #[.pointer (some ⟨bd, 0, none⟩)] w fun e w' => ∃ v, e = .returned v ∧ Own w' 9 1 v (MD.names D).length ((MD.names D).map Value.string) ∧ Grew w w' ∧ Fresh w v := by
  obtain ⟨bm, fused, left, rows, h1, h2, h3, h4, h5, hS, hnd, hok⟩ := hD
  clear hS hnd h2 h4
  have hlen : rows.length ≤ 4096 := by have := hok.many; rw [h5] at this; simpa using this
  have hnames : ∀ r ∈ rows, r.name.size ≤ 64 := fun r hr => hok.names (r.name, r.f) (by rw [h5]; exact List.mem_map.2 ⟨r, hr, rfl⟩)
  have hown := h3.owns (by simp [maxLen]; omega)
  have hperm := rows_keys rows hnames
  have e1 := cell_is h1 1 _ rfl
  have hsz : Maps.size (DataW.map (((rows.map Rw.kv).map fun p => ((keyOf Try.prog 9 p.1).getD (.bool false), (DataW.nil : DataW Unit))).foldr DataW.insert [])) = rows.length := by
    rw [Maps.size_eq, (WideShapes.sorted_perm _).length_eq]; simp
  generalize hD0 : (DataW.map (((rows.map Rw.kv).map fun p => ((keyOf Try.prog 9 p.1).getD (.bool false), (DataW.nil : DataW Unit))).foldr DataW.insert [])) = D0 at hown hperm hsz
  have hfn : (D.files.map fun p => p.1.data.toList) = rows.map fun r => r.name.data.toList := by rw [h5]; simp
  have Hfn := Lib.hid hfn
  have Hperm := Lib.hid hperm
  have Hown := Lib.hid hown
  have Hsz := Lib.hid hsz
  clear hfn hperm hown hsz hD0 hok h3 hnames h5
  have hS := callsIn_wide.1 (Try.slices_Sorted_keys bm _ D0 noElem w Hown.out (by rw [Hsz.out]; unfold maxLen; omega) (by rw [Hsz.out]; omega))
  have HS := Lib.hid hS
  clear hS
  go_enter Try.func21, Try.ntmps21
  go_wp2_with (first
    | (go_at_call 36; (with_reducible refine (callsIn_wide.1 (Try.maps_Keys _ _)).mono ?_); rintro e w1 ⟨rfl, rfl⟩)
    | (go_at_call 35; (with_reducible refine HS.out.mono ?_); rintro e w2 ⟨v, ss, rfl, hp, hrow, hnil, hb⟩))
  go_ret
  have hn : MD.names D = (ss.mergeSort leB).map fun l => ⟨l.toArray⟩ := by
    unfold MD.names
    rw [Hfn.out, mergeSort_of_perm (hp.trans Hperm.out)]
  obtain ⟨ho, hf⟩ := own_of_ownsRow hrow
  refine ⟨v, rfl, ?_, Grew.trans (grew_alloc w _) (grew_of_below hb), fun k hk => ?_⟩
  · rw [hn]
    simpa [List.map_map, Function.comp_def] using ho
  · have := hf k hk
    simp at this; omega
end Go.Proofs.Ytjcjajpndchfdaa
