/- The document's net: Late, Drop. -/
import Derived.Test.YtccknjnbpccmhaaK1
namespace Go.Proofs.Ytccknjnbpccmhaa
open Go.RowKit

theorem rlate_end {w w2 W w3 : World} {bn : Nat} {v0 v v' dv : Value} {S : List Nat} {rows : List Mr} {m : Mg} (hlen : rows.length < 1024)
    (h1 : w2.heap[bn]? = some (.cells #[v0] 33 (0, 0))) (h3 : ∀ r ∈ rows, OwnB w2 r.dv r.m.data) (hnd : (bn :: (v.ownBlock.toList ++ rows.flatMap Mr.blocks)).Nodup) (hdat : ∀ m ∈ rows.map (·.m), m.data.length ≤ 1048576) (hm : m.data.length ≤ 1048576)
    (g : Grew w2 W) (hB : OwnB w2 dv m.data) (hS : ∀ j ∈ bn :: (v.ownBlock.toList ++ rows.flatMap Mr.blocks), j ∈ S ∨ w.heap.size ≤ j) (hdS : ∀ j, dv.ownBlock = some j → j ∈ S ∧ j ∉ bn :: (v.ownBlock.toList ++ rows.flatMap Mr.blocks)) (hF : Frm (· ∈ S) w w2)
    (hown : Row w3 v' (rows ++ [⟨dv, m⟩])) (f : Frm (fun k => v.ownBlock = some k) W w3) (hv : v'.ownBlock = v.ownBlock ∨ v'.ownBlock = some W.heap.size) :
    NetPost 33 w bn S (.bool true) (rows.map (·.m) ++ [m]) (.returned (.bool true)) (w3.setCell ⟨bn, 0, none⟩ v') := by
  obtain ⟨S', n1, n2, n3⟩ := net_push (r := ⟨dv, m⟩) h1 h3 hnd hlen (fun x hx => hdat x.m (List.mem_map.2 ⟨x, hx, rfl⟩)) hm g (hB.keepG g) (fun j hj => (hdS j hj).2) hown f hv
  refine ⟨S', rfl, by simpa using n1, hF.trans (n2.mono (T := fun j => j ∈ S ∨ w.heap.size ≤ j) (fun j _ hj => hS j hj)) (fun j hj h => h.elim id (fun h => by omega)), fun j hj => ?_⟩
  rcases n3 j hj with h | h | h
  · exact hS j h
  · exact .inl (hdS j h).1
  · exact .inr (Nat.le_trans hF.size h)

set_option maxRecDepth 100000 in
set_option maxHeartbeats 4000000 in
theorem rnLate_spec (w : World) (bn : Nat) (l : List Mg) (S : List Nat) (h : NetAt 33 w bn l S) (pick : Int) (hl : 0 < l.length) :
    Calls Try.prog 16 #[.pointer (some ⟨bn, 0, none⟩), .int .i64 pick] w (NetPost 33 w bn S (.bool true) (l.eraseIdx (pickAt l pick) ++ [l[pickAt l pick]'(pickAt_lt pick hl)])) := by
  have hg := rnGive_spec w bn l S h pick
  have hk := pickAt_lt pick hl
  have hlen0 : l.length ≤ 1024 := by obtain ⟨_, _, _, _, _, _, _, _, h, _⟩ := h; exact h
  have hdat0 : l[pickAt l pick].data.length ≤ 1048576 := by obtain ⟨_, _, _, _, _, _, _, _, _, h⟩ := h; exact h _ (List.getElem_mem hk)
  have hel : (l.eraseIdx (pickAt l pick)).length = l.length - 1 := List.length_eraseIdx_of_lt hk
  generalize hmm : l[pickAt l pick]'hk = mm at hdat0 ⊢
  generalize hll : l.eraseIdx (pickAt l pick) = l' at hel ⊢
  have HG : Hid (Calls Try.prog 11 #[.pointer (some ⟨bn, 0, none⟩), .int .i64 pick] w fun e w' => ∃ (S' : List Nat) (dv : Value), e = .returned (.tuple #[.agg #[.int .i64 mm.frm, .int .i64 mm.to, dv], .bool true]) ∧ NetAt 33 w' bn l' S' ∧ OwnB w' dv mm.data ∧ Frm (· ∈ S) w w' ∧
      (∀ j ∈ S', j ∈ S ∨ w.heap.size ≤ j) ∧ ∀ j, dv.ownBlock = some j → j ∈ S ∧ j ∉ S') := by
    refine hg.mono ?_
    intro e w' hp
    unfold GivePost at hp
    rw [if_pos hl] at hp
    obtain ⟨hk', S', dv, h1, h2, h3, h4⟩ := hp
    rw [hmm] at h1 h3
    rw [hll] at h2
    exact ⟨S', dv, h1, h2, h3, h4⟩
  clear hg hmm hll
  go_enter Try.func16, Try.ntmps16
  go_wp2_with
    (go_at_call 11
     (with_reducible refine HG.out.mono ?_)
     rintro e w2 ⟨S', dv, rfl, ⟨v, rows, h1, h2, h3, rfl, rfl, hnd, hlen, hdat⟩, hB, hF, hS, hdS⟩
     obtain ⟨da, dc, rfl, _, _, _⟩ := hB.rd.shape)
  obtain ⟨va, vc, rfl, k1, k2, k3⟩ := h2.rd.shape
  unfold maxLen at k2 k3
  rw [List.length_map] at hel hlen
  have hlt : rows.length < 1024 := by omega
  clear hel
  have hnb : (Value.slice va rows.length vc).ownBlock ≠ some bn := fun e => (List.nodup_cons.1 hnd).1 (by simp [e])
  generalize hw1 : World.alloc w2 _ = w1
  have f1 : Grew w2 w1 := hw1 ▸ grew_alloc w2 _
  have hbm : w1.heap[w2.heap.size]? = some (.cells #[.int .i64 mm.frm, .int .i64 mm.to, .slice da mm.data.length dc] 25 (0, 0)) := hw1 ▸ heap_alloc_new' w2 _
  generalize hbme : w2.heap.size = bm at hbm ⊢
  clear hw1
  have g1 := f1.keepG h1
  have d0 : w1.drew.cell? ⟨bn, 0, none⟩ = some (.slice va rows.length vc) := cell_is g1 0 _ rfl
  have d1 : w1.drew.cell? ⟨bm, 0, none⟩ = some (.int .i64 mm.frm) := cell_is hbm 0 _ rfl
  have d2 : w1.drew.cell? ⟨bm, 1, none⟩ = some (.int .i64 mm.to) := cell_is hbm 1 _ rfl
  have d3 : w1.drew.cell? ⟨bm, 2, none⟩ = some (.slice da mm.data.length dc) := cell_is hbm 2 _ rfl
  have d4 : w1.cell? ⟨bn, 0, none⟩ = some (.slice va rows.length vc) := d0
  have gd : Grew w2 (w1.drew.alloc (.cells #[.int .i64 mm.frm, .int .i64 mm.to, .slice da mm.data.length dc] 25)) := (Frm.drew f1).alloc _
  have l1 := lt_of_heap g1
  have H3 := Lib.hid h3
  have HS := Lib.hid hS
  have HdS := Lib.hid hdS
  have Hdat := Lib.hid hdat
  clear h3 hS hdS hdat
  go_region_law (
    (refine step_appendM (.slice va rows.length vc) (.slice (some ⟨w1.heap.size, 0, none⟩) 1 1) rows [⟨.slice da mm.data.length dc, mm⟩] rfl _ _ rfl (by simp [Act.eval]) (by simp [Act.eval]) (h2.keepG gd) (Row.lit w1.drew ⟨.slice da mm.data.length dc, mm⟩).rd
       (cellsOf_one (w := w2) (fun r hr => by obtain rfl := List.mem_singleton.1 hr; exact hB)) (by simp; omega) ?_
     intro v' w3 a1 a2 a3 a4
     obtain ⟨ra, rc, hv3, _, _, _⟩ := a1.rd.shape
     rw [show (rows ++ [(⟨.slice da mm.data.length dc, mm⟩ : Mr)]).length = rows.length + 1 by simp] at hv3
     subst hv3
     have b3 : w3.heap[bn]? = some (.cells #[.slice va rows.length vc] 33 (0, 0)) := a2.keep (gd.keepG h1) (fun e => hnb e)
     have q5 : w3.cell? ⟨bn, 0, none⟩ = some (.slice va rows.length vc) := cell_is b3 0 _ rfl
     have q6 := frozen_of b3 0))
  all_goals
    have hend := rlate_end (w := w) (S := S) hlt h1 H3.out hnd Hdat.out (by assumption) gd hB HS.out HdS.out hF a1 a2 a3
    have Hend := Lib.hid hend
    clear hend
    go_wp2_with fail
    go_ret
    exact Hend.out

def RowNew (w : World) (wr : World) (lv : Value) (rows : List Mr) : Prop := Row wr lv rows ∧ Grew w wr ∧ ∀ j, lv.ownBlock = some j → w.heap.size ≤ j

set_option maxRecDepth 100000 in
set_option maxHeartbeats 4000000 in
theorem rnDrop_spec (w : World) (bn : Nat) (l : List Mg) (S : List Nat) (h : NetAt 33 w bn l S) (node : Int) :
    Calls Try.prog 18 #[.pointer (some ⟨bn, 0, none⟩), .int .i64 node] w (NetPost 33 w bn S (.int .i64 ((l.length : Int) - ((l.filter (fun m => !hit node m)).length : Int))) (l.filter (fun m => !hit node m))) := by
  obtain ⟨v, rows, h1, h2, h3, rfl, rfl, hnd, hlen, hdat⟩ := h
  obtain ⟨va, vc, rfl, k1, k2, k3⟩ := h2.rd.shape
  unfold maxLen at k2 k3
  rw [List.length_map] at hlen
  have hlm : ((rows.map (·.m)).length : Int) = (rows.length : Int) := by simp
  rw [hlm]
  have hff := filter_map node rows
  have hfl : ((rows.map (·.m)).filter (fun m => !hit node m)).length ≤ rows.length := by
    have := List.length_filter_le (fun m => !hit node m) (rows.map (·.m))
    rwa [List.length_map] at this
  have hw : wrap64 ((rows.length : Int) - (((rows.map (·.m)).filter (fun m => !hit node m)).length : Int)) = (rows.length : Int) - (((rows.map (·.m)).filter (fun m => !hit node m)).length : Int) := by
    unfold wrap64; omega
  have hfe : (rows.filter (keeps node)).length = ((rows.map (·.m)).filter (fun m => !hit node m)).length := by rw [← hff, List.length_map]
  have hdvs : ∀ r ∈ rows, ∃ da dc, r.dv = .slice da r.m.data.length dc := fun r hr => by
    obtain ⟨da, dc, e, _⟩ := (h3 r hr).rd.shape
    exact ⟨da, dc, e⟩
  have Hdv := Lib.hid hdvs
  have Hff := Lib.hid hff
  have Hfe := Lib.hid hfe
  have H3 := Lib.hid h3
  have H2 := Lib.hid h2
  have hone := cellsOf_one h3
  have Hone := Lib.hid hone
  have c1 : w.cell? ⟨bn, 0, none⟩ = some (.slice va rows.length vc) := cell_is h1 0 _ rfl
  clear hlm hff hfe h3 hone hdvs
  go_enter Try.func18, Try.ntmps18
  go_wp2_with fail
  go_loopg [5, 6] (rows.length + 1) (fun gk lv i wr => ∃ j : Nat, j ≤ rows.length ∧ gk + j = rows.length + 1 ∧ i = .int .i64 j ∧ RowNew w wr lv ((rows.take j).filter (keeps node)))
  case atStart => exact ⟨0, Nat.zero_le _, rfl, rfl, Row.nil w, Frm.refl _ w, fun j hj => by cases hj⟩
  case round =>
    obtain ⟨j, hj, hgk, rfl, hr⟩ := hrel
    have Hgk := Lib.hid hgk
    have HR := Lib.hid hr
    have e1 : wr.cell? ⟨bn, 0, none⟩ = some (.slice va rows.length vc) := hr.2.1.cellG c1
    obtain ⟨la, lc, hlv, q1, q2, q3⟩ := hr.1.rd.shape
    unfold maxLen at q2 q3
    clear hgk
    by_cases hlt : j < rows.length
    · obtain ⟨g, rfl⟩ : ∃ g, va = some ⟨g, 0, none⟩ := by
        rcases H2.out.2 with ⟨_, h'⟩ | ⟨g, cap, c, h, _⟩
        · omega
        · cases h; exact ⟨g, rfl⟩
      obtain ⟨e2, e3, e4⟩ := row_cells (H2.out.rd.keepG hr.2.1) hlt rfl
      obtain ⟨da, dc, hdv⟩ := Hdv.out _ (List.getElem_mem hlt)
      rw [hdv] at e4
      have i1 : (0 : Int) ≤ (j : Int) := Int.natCast_nonneg _
      have i2 : (j : Int) < (rows.length : Int) := by omega
      have hnl : ((rows.take j).filter (keeps node)).length ≤ j := by
        have := List.length_filter_le (keeps node) (rows.take j)
        rw [List.length_take] at this
        omega
      subst hlv
      have Hdv1 := Lib.hid hdv
      clear hr hdv
      cases hh1 : (rows[j].m.frm == node) <;> cases hh2 : (rows[j].m.to == node)
      case false.false =>
        have hd1 : (rows[j].m.frm != node) = true := by simp [bne, hh1]
        have hd2 : (rows[j].m.to != node) = true := by simp [bne, hh2]
        have hk : hit node rows[j].m = false := by simp [hit, hh1, hh2]
        have Hk := Lib.hid hk
        clear hk hh1 hh2
        go_wp2_with (at_builtin; first
          | (refine wpList_appendM (.slice la ((rows.take j).filter (keeps node)).length lc) (.slice (some ⟨wr.heap.size, 0, none⟩) 1 1) ((rows.take j).filter (keeps node)) [⟨.slice da rows[j].m.data.length dc, rows[j].m⟩] rfl _ _ rfl rfl rfl (HR.out.1.keepG (grew_alloc wr _)) (Row.lit wr ⟨.slice da rows[j].m.data.length dc, rows[j].m⟩).rd
               (cellsOf_one (w := w) (fun r hr => by obtain rfl := List.mem_singleton.1 hr; have h := H3.out _ (List.getElem_mem hlt); rw [Hdv1.out] at h; exact h)) (by simp; omega) ?_
             intro v' w3 a1 a2 a3 a4))
        go_roundg (gk - 1)
        case measure => have := Hgk.out; omega
        case rel =>
          refine ⟨j + 1, by omega, by have := Hgk.out; omega, by go_num, ?_, ?_, ?_⟩
          · rw [keep_snoc hlt Hk.out]
            have e : rows[j] = ⟨.slice da rows[j].m.data.length dc, rows[j].m⟩ := by rw [← Hdv1.out]
            rw [e]; exact a1
          · exact Frm.trans (HR.out.2.1.alloc _) a2 (fun k hk e => by have := HR.out.2.2 k e; omega)
          · intro k hk
            rcases a3 with h | h <;> rw [h] at hk
            · exact HR.out.2.2 k hk
            · have h1 := Option.some.inj hk; have h2 := HR.out.2.1.size; simp at h1; omega
      all_goals
        have hk : hit node rows[j].m = true := by simp [hit, hh1, hh2]
        have Hk := Lib.hid hk
        have hd1 : (rows[j].m.frm != node) = !(rows[j].m.frm == node) := rfl
        have hd2 : (rows[j].m.to != node) = !(rows[j].m.to == node) := rfl
        rw [hh1] at hd1
        rw [hh2] at hd2
        clear hk hh1 hh2
        go_wp2_with fail
        go_roundg (gk - 1)
        case measure => have := Hgk.out; omega
        case rel => exact ⟨j + 1, by omega, by have := Hgk.out; omega, by go_num, by rw [keep_snoc_hit hlt Hk.out]; exact HR.out⟩
    · have hjn : j = rows.length := by omega
      subst hjn
      rw [List.take_length] at hr HR hlv
      rw [Hfe.out] at hlv
      subst hlv
      have ff := frozen_of (hr.2.1.keepG h1) 0
      obtain ⟨n1, n2, n3, n4⟩ := net_new (T := 33) (List.filter_sublist (p := keeps node)) h1 H3.out hnd hlen (fun r hr => hdat r.m (List.mem_map.2 ⟨r, hr, rfl⟩)) HR.out.2.1 HR.out.1 HR.out.2.2
      rw [Hff.out] at n1
      have N := Lib.hid (And.intro n1 (And.intro n3 n4))
      clear hr n1 n2 n3 n4
      go_wp2_with fail
      go_ret
      exact ⟨_, rfl, N.out.1, N.out.2.1, N.out.2.2⟩
end Go.Proofs.Ytccknjnbpccmhaa
