/- slices.DeleteFunc at Drop's closure; Drop. -/
import Derived.Test.YtccknjnbpccmhaaH1
import Derived.Test.YtccknjnbpccmhaaC1
import Derived.Test.YtccknjnbpccmhaaF1
namespace Go.Proofs.Ytccknjnbpccmhaa
open Go.RowKit

def keeps (node : Int) (r : Mr) : Bool := !hit node r.m

theorem keep_snoc_hit {node : Int} {rows : List Mr} {b : Nat} (hb : b < rows.length) (h : hit node rows[b].m = true) : (rows.take (b + 1)).filter (keeps node) = (rows.take b).filter (keeps node) := by
  rw [List.take_succ_eq_append_getElem hb, List.filter_append]
  simp [keeps, h]
theorem keep_snoc {node : Int} {rows : List Mr} {b : Nat} (hb : b < rows.length) (h : hit node rows[b].m = false) : (rows.take (b + 1)).filter (keeps node) = (rows.take b).filter (keeps node) ++ [rows[b]] := by
  rw [List.take_succ_eq_append_getElem hb, List.filter_append]
  simp [keeps, h]
theorem get_of_drop {rs rows : List Mr} {b : Nat} (h : rs.drop b = rows.drop b) (h1 : b < rs.length) (h2 : b < rows.length) : rs[b] = rows[b] := by
  rw [← List.getElem_cons_drop h1, ← List.getElem_cons_drop h2] at h
  exact (List.cons.inj h).1
theorem drop_next {rs rows : List Mr} {b : Nat} (h : rs.drop b = rows.drop b) : rs.drop (b + 1) = rows.drop (b + 1) := by
  have := congrArg (List.drop 1) h
  simpa [List.drop_drop] using this

set_option maxRecDepth 100000 in
set_option maxHeartbeats 4000000 in
theorem slDeleteFunc_spec (w : World) (v : Value) (rows : List Mr) (h : Row w v rows) (hdvs : ∀ r ∈ rows, ∃ da dc, r.dv = .slice da r.m.data.length dc) (node : Int) (b3 : Nat) (h3 : w.heap[b3]? = some (.cells #[.int .i64 node] 3 (0, 0))) (hb3 : v.ownBlock ≠ some b3) :
    Calls Try.prog 29 #[v, .func (.func 30) #[] #[.pointer (some ⟨b3, 0, none⟩)]] w fun e w' =>
      ∃ v', e = .returned v' ∧ Row w' v' (rows.filter (keeps node)) ∧ v'.ownBlock = v.ownBlock ∧ Frm (fun k => v.ownBlock = some k) w w' := by
  obtain ⟨va, vc, rfl, k1, k2, k3⟩ := h.rd.shape
  unfold maxLen at k2 k3
  have Hh := Lib.hid h
  have Hd := Lib.hid hdvs
  have hi := slIndexFunc_spec w _ rows h hdvs node b3 h3
  have Hi := Lib.hid hi
  clear h hi hdvs
  go_enter Try.func29, Try.ntmps29
  go_wp2_with
    (go_at_call 32
     (with_reducible refine Hi.out.mono ?_)
     rintro e w1 ⟨z, rfl, g1, hz⟩
     rcases hz with ⟨rfl, hno⟩ | ⟨j0, hj0, rfl, hj1, hj2⟩)
  · go_ret
    have e : rows.filter (keeps node) = rows := List.filter_eq_self.2 (fun r hr => by simp [keeps, hno r hr])
    rw [e]
    exact ⟨_, rfl, Hh.out.keepG g1, rfl, Frm.of_grew g1⟩
  · have hz : ((j0 : Int) == -1) = false := beq_eq_false_iff_ne.2 (by omega)
    obtain ⟨g, rfl⟩ : ∃ g, va = some ⟨g, 0, none⟩ := by
      rcases Hh.out.2 with ⟨_, h'⟩ | ⟨g, cap, c, h, _⟩
      · omega
      · cases h; exact ⟨g, rfl⟩
    have hgb : g ≠ b3 := fun e => hb3 (by rw [e]; rfl)
    have Hj2 := Lib.hid hj2
    have Hj1 := Lib.hid hj1
    clear hj1 hj2 Hi
    go_wp2_with fail
    go_loopg [5, 6, 7] (rows.length + 1) (fun gk i j _ wr => ∃ (a b : Nat) (rs : List Mr), a < b ∧ b ≤ rows.length ∧ rows.length + 1 ≤ gk + b ∧ i = .int .i64 a ∧ j = .int .i64 b ∧ rs.length = rows.length ∧ Row wr (.slice (some ⟨g, 0, none⟩) rs.length vc) rs ∧
      rs.take a = (rows.take b).filter (keeps node) ∧ rs.drop b = rows.drop b ∧ Frm (fun k => k = g) w wr)
    case atStart =>
      refine ⟨j0, j0 + 1, rows, by omega, by omega, by omega, rfl, rfl, rfl, Hh.out.keepG g1, ?_, rfl, Frm.of_grew g1⟩
      rw [keep_snoc_hit hj0 Hj1.out]
      refine (List.filter_eq_self.2 fun r hr => ?_).symm
      obtain ⟨i, hi, rfl⟩ := List.mem_iff_getElem.1 hr
      have hi' : i < j0 := by
        rw [List.length_take] at hi
        exact Nat.lt_of_lt_of_le hi (Nat.min_le_left _ _)
      simp only [List.getElem_take, keeps, Hj2.out i hi', Bool.not_false]
    case round =>
      obtain ⟨a, b, rs, hab, hb, hgk, rfl, rfl, hrs, hrow, htk, hdr, hf⟩ := hrel
      have Hgk := Lib.hid hgk
      have Htk := Lib.hid htk
      have Hdr := Lib.hid hdr
      have Hrs := Lib.hid hrs
      have Hrow := Lib.hid hrow
      have hf3 : wr.heap[b3]? = some (.cells #[.int .i64 node] 3 (0, 0)) := hf.keep h3 (fun e => hgb e.symm)
      by_cases hlt : b < rows.length
      · have hrb : b < rs.length := by omega
        have hel : rs[b] = rows[b] := get_of_drop hdr hrb hlt
        obtain ⟨e0, e1, e2⟩ := row_cells hrow.rd hrb rfl
        rw [hel] at e0 e1 e2
        have i1 : (0 : Int) ≤ (b : Int) := Int.natCast_nonneg _
        have i2 : (b : Int) < (rows.length : Int) := by omega
        obtain ⟨da, dc, hdv⟩ := Hd.out _ (List.getElem_mem hlt)
        rw [hdv] at e2
        clear hgk htk hdr hrow hel hrs
        have gA := grew_alloc wr (.cells #[.int .i64 rows[b].m.frm, .int .i64 rows[b].m.to, .slice da rows[b].m.data.length dc] 25)
        have hbx := heap_alloc_new' wr (.cells #[.int .i64 rows[b].m.frm, .int .i64 rows[b].m.to, .slice da rows[b].m.data.length dc] 25)
        cases hh : hit node rows[b].m with
        | true =>
          have Hh2 := Lib.hid hh
          have hh' : (rows[b].m.frm == node || rows[b].m.to == node) = true := hh
          clear hh
          go_wp2_with
            (go_at_call 30
             (with_reducible refine (dropC_spec _ rows[b].m.frm rows[b].m.to node _ b3 (gA.keepG hf3)).mono ?_)
             rw [hh']
             rintro e w2 ⟨rfl, g2⟩)
          go_roundg (gk - 1)
          case measure => have := Hgk.out; omega
          case rel => exact ⟨a, b + 1, rs, by omega, by omega, by have := Hgk.out; omega, rfl, by go_num, Hrs.out, Hrow.out.keepG (Grew.trans gA g2), by rw [keep_snoc_hit hlt Hh2.out]; exact Htk.out, drop_next Hdr.out, hf.grew (Grew.trans gA g2)⟩
        | false =>
          have Hh2 := Lib.hid hh
          have hh' : (rows[b].m.frm == node || rows[b].m.to == node) = false := hh
          clear hh
          go_wp2_with
            (go_at_call 30
             (with_reducible refine (dropC_spec _ rows[b].m.frm rows[b].m.to node _ b3 (gA.keepG hf3)).mono ?_)
             rw [hh']
             rintro e w2 ⟨rfl, g2⟩
             have hbx2 := g2.keepG hbx
             have d0 : w2.cell? ⟨wr.heap.size, 0, none⟩ = some (.int .i64 rows[b].m.frm) := cell_is hbx2 0 _ rfl
             have d1 : w2.cell? ⟨wr.heap.size, 1, none⟩ = some (.int .i64 rows[b].m.to) := cell_is hbx2 1 _ rfl
             have d2 : w2.cell? ⟨wr.heap.size, 2, none⟩ = some (.slice da rows[b].m.data.length dc) := cell_is hbx2 2 _ rfl
             have hro := Hrow.out.keepG (Grew.trans gA g2)
             have hra : a < rs.length := by omega
             obtain ⟨q0, q1, q2⟩ := row_cells hro.rd hra rfl
             have qf := row_frozen hro)
          go_roundg (gk - 1)
          case measure => have := Hgk.out; omega
          case rel =>
            have hset := row_set hro hra rows[b]
            rw [hdv] at hset
            refine ⟨a + 1, b + 1, rs.set a rows[b], by omega, by omega, by have := Hgk.out; omega, by go_num, by go_num, by rw [List.length_set]; exact Hrs.out, ?_, ?_, ?_, ?_⟩
            · unfold Row at hset ⊢
              rw [List.length_set] at hset ⊢
              exact hset
            · rw [keep_snoc hlt Hh2.out, ← Htk.out, List.take_succ_eq_append_getElem (by rw [List.length_set]; exact hra), List.take_set_of_le (Nat.le_refl a)]
              simp
            · rw [List.drop_set_of_lt (by omega)]
              exact drop_next Hdr.out
            · refine (hf.grew (Grew.trans gA g2)).trans (T := fun k => k = g) ?_ (fun _ _ h => h)
              exact (((Frm.refl (fun k => k = g) w2).setCell (p := ⟨g, a * 3, none⟩) (fun _ => rfl) _).setCell (p := ⟨g, a * 3 + 1, none⟩) (fun _ => rfl) _).setCell (p := ⟨g, a * 3 + 2, none⟩) (fun _ => rfl) _
      · have hbn : b = rows.length := by omega
        subst hbn
        obtain ⟨w3, r1, r2, r3⟩ := row_clear (n := rs.length) (i := a) hrow (by omega) (by omega) (by omega) 0 (vc - a)
        rw [hrs] at r1
        rw [htk, List.take_length] at r3
        have R1 := Lib.hid r1
        have R3 := Lib.hid r3
        have i1 : (0 : Int) ≤ (a : Int) := Int.natCast_nonneg _
        have i2 : (a : Int) ≤ (rows.length : Int) := by omega
        have i3 : ¬ vc = a := by omega
        have i4 : a ≤ vc := by omega
        have i5 : a ≤ rows.length := by omega
        have hla : (rows.filter (keeps node)).length = a := by
          have := congrArg List.length htk
          rw [List.take_length, List.length_take] at this
          omega
        have Hla := Lib.hid hla
        clear r1 r3 hgk htk hdr hrs hrow hla
        go_wp2_with fail
        rw [R1.out]
        go_wp2_with fail
        go_ret
        refine ⟨_, rfl, ?_, rfl, (hf.trans r2 (fun _ _ h => h)).mono (fun k _ e => by rw [e]; rfl)⟩
        have hh := R3.out
        unfold Row at hh ⊢
        exact hh

theorem filter_map (node : Int) (rows : List Mr) : (rows.filter (keeps node)).map (·.m) = (rows.map (·.m)).filter (fun m => !hit node m) := by
  rw [List.filter_map]; rfl

theorem filter_blocks (node : Int) (rows : List Mr) : ((rows.filter (keeps node)).flatMap Mr.blocks).Sublist (rows.flatMap Mr.blocks) := by
  induction rows with
  | nil => exact List.Sublist.refl _
  | cons r l ih =>
    rw [List.filter_cons]
    split
    · simp only [List.flatMap_cons]
      exact (List.Sublist.refl _).append ih
    · simp only [List.flatMap_cons]
      exact ih.trans (List.sublist_append_right _ _)

theorem net_filter {T : TypeId} {w w' : World} {bn : Nat} {v0 v v' : Value} {rows : List Mr} {node : Int}
    (h1 : w.heap[bn]? = some (.cells #[v0] T (0, 0))) (h3 : ∀ r ∈ rows, OwnB w r.dv r.m.data) (hnd : (bn :: (v.ownBlock.toList ++ rows.flatMap Mr.blocks)).Nodup)
    (hlen : rows.length ≤ 1024) (hdat : ∀ r ∈ rows, r.m.data.length ≤ 1048576)
    (hown : Row w' v' (rows.filter (keeps node))) (hv : v'.ownBlock = v.ownBlock) (f : Frm (fun k => v.ownBlock = some k) w w') :
    NetAt T (w'.setCell ⟨bn, 0, none⟩ v') bn ((rows.filter (keeps node)).map (·.m)) (bn :: (v.ownBlock.toList ++ (rows.filter (keeps node)).flatMap Mr.blocks)) ∧
    Frm (· ∈ bn :: (v.ownBlock.toList ++ rows.flatMap Mr.blocks)) w (w'.setCell ⟨bn, 0, none⟩ v') ∧
    (∀ k ∈ bn :: (v.ownBlock.toList ++ (rows.filter (keeps node)).flatMap Mr.blocks), k ∈ bn :: (v.ownBlock.toList ++ rows.flatMap Mr.blocks)) := by
  have hsl : (bn :: (v.ownBlock.toList ++ (rows.filter (keeps node)).flatMap Mr.blocks)).Sublist (bn :: (v.ownBlock.toList ++ rows.flatMap Mr.blocks)) :=
    List.Sublist.cons_cons _ ((List.Sublist.refl _).append (filter_blocks node rows))
  obtain ⟨hn1, hn2⟩ := List.nodup_cons.1 hnd
  have hn3 := List.nodup_append.1 hn2
  have hbv : ∀ k, v.ownBlock = some k → k ≠ bn := fun k hk e => hn1 (by subst e; simp [hk])
  have fset : Frm (fun k => k = bn) w' (w'.setCell ⟨bn, 0, none⟩ v') := (Frm.refl (fun k => k = bn) w').setCell (p := ⟨bn, 0, none⟩) (fun _ => rfl) _
  have hblk : ∀ x ∈ rows, ∀ k, x.dv.ownBlock = some k → k ∈ rows.flatMap Mr.blocks := fun x hx k hk => List.mem_flatMap.2 ⟨x, hx, by simp [Mr.blocks, hk]⟩
  have hsub : ∀ x ∈ rows.filter (keeps node), x ∈ rows := fun x hx => (List.mem_filter.1 hx).1
  refine ⟨⟨v', rows.filter (keeps node), ?_, hown.keep fset (fun k hk e => hbv k (hv ▸ hk) e), fun x hx => ?_, rfl, by rw [hv], hnd.sublist hsl, ?_, ?_⟩, (f.mono (fun k _ e => by simp [e])).trans (fset.mono (fun k _ e => by simp [e])) (fun _ _ h => h), fun k hk => hsl.mem hk⟩
  · rw [heap_setCell_eq (f.keep h1 (fun e => hbv bn e rfl))]; rfl
  · exact ((h3 x (hsub x hx)).keep f (fun k hk e => hn3.2.2 k (by simp [e]) k (hblk x (hsub x hx) k hk) rfl)).keep fset (fun k hk e => hn1 (by rw [← e]; exact List.mem_append.2 (.inr (hblk x (hsub x hx) k hk))))
  · rw [List.length_map]; exact Nat.le_trans (List.length_filter_le _ _) hlen
  · intro m hm
    obtain ⟨x, hx, rfl⟩ := List.mem_map.1 hm
    exact hdat x (hsub x hx)

set_option maxRecDepth 100000 in
set_option maxHeartbeats 2000000 in
theorem nDrop_spec (w : World) (bn : Nat) (l : List Mg) (S : List Nat) (h : NetAt 47 w bn l S) (node : Int) :
    Calls Try.prog 17 #[.pointer (some ⟨bn, 0, none⟩), .int .i64 node] w (NetPost 47 w bn S (.int .i64 ((l.length : Int) - ((l.filter (fun m => !hit node m)).length : Int))) (l.filter (fun m => !hit node m))) := by
  have h0 := h
  obtain ⟨v, rows, h1, h2, h3, rfl, rfl, hnd, hlen, hdat⟩ := h
  obtain ⟨va, vc, rfl, k1, k2, k3⟩ := h2.rd.shape
  unfold maxLen at k2 k3
  have gA := grew_alloc w (.cells #[.int .i64 node] 3)
  have hb := heap_alloc_new' w (.cells #[.int .i64 node] 3)
  have hA := h0.keepG gA
  have l1 := lt_of_heap h1
  have c1 : (w.alloc (.cells #[.int .i64 node] 3)).cell? ⟨bn, 0, none⟩ = some (.slice va rows.length vc) := cell_is (gA.keepG h1) 0 _ rfl
  have hvl := h2.lt
  rw [List.length_map] at hlen
  have hdvs : ∀ r ∈ rows, ∃ da dc, r.dv = .slice da r.m.data.length dc := fun r hr => by
    obtain ⟨da, dc, e, _⟩ := (h3 r hr).rd.shape
    exact ⟨da, dc, e⟩
  have hD := slDeleteFunc_spec _ _ rows (h2.keepG gA) hdvs node w.heap.size hb (fun e => by have := hvl _ e; omega)
  have HD := Lib.hid hD
  have HA := Lib.hid hA
  have hlm : ((rows.map (·.m)).length : Int) = (rows.length : Int) := by simp
  have hff := filter_map node rows
  have Hff := Lib.hid hff
  have H0 := Lib.hid h0
  clear hD hA hff hdvs h0
  have hfl : ((rows.map (·.m)).filter (fun m => !hit node m)).length ≤ rows.length := by
    have := List.length_filter_le (fun m => !hit node m) (rows.map (·.m))
    rwa [List.length_map] at this
  have hw : wrap64 ((rows.length : Int) - (((rows.map (·.m)).filter (fun m => !hit node m)).length : Int)) = (rows.length : Int) - (((rows.map (·.m)).filter (fun m => !hit node m)).length : Int) := by
    unfold wrap64; omega
  rw [hlm]
  by_cases hl : 0 < rows.length
  · have hgt : decide ((0 : Int) < (rows.length : Int)) = true := decide_eq_true (by omega)
    go_enter Try.func17, Try.ntmps17
    go_wp2_with (first
      | (go_at_call 19
         (with_reducible refine (nLen_spec _ bn _ _ HA.out).mono ?_)
         rintro e w2 ⟨rfl, rfl⟩)
      | (go_at_call 29
         (with_reducible refine HD.out.mono ?_)
         rintro e w3 ⟨v', rfl, r1, r2, r3⟩
         obtain ⟨ra, rc, rfl, _, _, _⟩ := r1.rd.shape
         have q1 := r3.keep (gA.keepG h1) (fun e => (List.nodup_cons.1 hnd).1 (by simp [e]))
         have q2 : w3.cell? ⟨bn, 0, none⟩ = some (.slice va rows.length vc) := cell_is q1 0 _ rfl
         have q3 := frozen_of q1 0
         obtain ⟨n1, n2, n3⟩ := net_filter (T := 47) (gA.keepG h1) (fun r hr => (h3 r hr).keepG gA) hnd hlen (fun r hr => hdat r.m (List.mem_map.2 ⟨r, hr, rfl⟩)) r1 r2 r3
         rw [Hff.out] at n1
         have N1 := Lib.hid n1
         clear n1)
      | (go_at_call 19
         (with_reducible refine (nLen_spec _ bn _ _ N1.out).mono ?_)
         rintro e w2 ⟨rfl, rfl⟩))
    go_ret
    exact ⟨_, rfl, N1.out, Grew.trans gA n2, fun k hk => .inl (n3 k hk)⟩
  · obtain rfl : rows = [] := List.eq_nil_of_length_eq_zero (by omega)
    go_enter Try.func17, Try.ntmps17
    go_wp2_with
      (go_at_call 19
       (with_reducible refine (nLen_spec _ bn _ _ HA.out).mono ?_)
       rintro e w2 ⟨rfl, rfl⟩)
    go_ret
    exact ⟨_, rfl, HA.out, Frm.of_grew gA, fun k hk => .inl hk⟩
end Go.Proofs.Ytccknjnbpccmhaa
