/- The walk of DiskNames. -/
import Derived.Test.YtjcjajpndchfdaaPN
import Derived.Test.YtjcjajpndchfdaaTX
namespace Go.Proofs.Ytjcjajpndchfdaa
open Go.RowKit

set_option maxRecDepth 100000 in
set_option maxHeartbeats 4000000 in
theorem names_walk (w : World) (va vb vc : Value) (la lb lc : List UInt8) (hA : Bytes w va la) (hB : Bytes w vb lb) (hC : Bytes w vc lc) (na : la.length ≤ 140737488351232) (nb : lb.length ≤ 140737488351232) (nc : lc.length ≤ 140737488351232) (sync : Bool) :
    Calls Try.prog 6 #[va, vb, vc, .bool sync] w (BoolPost w true) := by
  obtain ⟨aa, ca, rfl, a1, a2, a3⟩ := hA.shape
  obtain ⟨ab, cb, rfl, b1, b2, b3⟩ := hB.shape
  obtain ⟨ac, cc, rfl, c1, c2, c3⟩ := hC.shape
  unfold maxLen at a2 a3 b2 b3 c2 c3
  have HA := Lib.hid hA
  have HB := Lib.hid hB
  have HC := Lib.hid hC
  clear hA hB hC
  by_cases hm : la.length + lb.length + lc.length ≤ 8000
  · go_enter Try.func6, Try.ntmps6
    go_wp2_with fail
    refine (dNew_spec _ 1048576).mono ?_
    rintro e w1 hp
    unfold NewPost at hp
    rw [if_neg (by omega)] at hp
    obtain ⟨bd, S1, rfl, hd1, g1, hs1'⟩ := hp
    rw [show (⟨Int.toNat 1048576, [], none⟩ : MD) = nmD [] from rfl] at hd1
    go_wp2_with fail
    refine (dWrite_spec _ bd _ S1 hd1 nameX (by decide) _ la (HA.out.keepG g1) (fun k hk hkS => by have h1 := HA.out.lt k hk; have h2 := hs1' k hkS; omega) (by omega)).mono ?_
    rintro e w2 ⟨S2, rfl, hd2, f2, hs2⟩
    rw [nm1 la (by omega)] at hd2 ⊢
    have g2 : Grew w w2 := grew_of_frm g1 f2 hs1'
    have hs2' : ∀ k ∈ S2, w.heap.size ≤ k := fun k hk => (hs2 k hk).elim (hs1' k) (fun h => by have := g1.size; omega)
    clear hs2 f2 hd1 hs1'
    go_wp2_with fail
    refine (dSync_spec _ bd _ S2 hd2 nameX (by decide)).mono ?_
    rintro e w3 ⟨S3, rfl, hd3, f3, hs3⟩
    rw [nm2] at hd3 ⊢
    have g3 : Grew w w3 := grew_of_frm g2 f3 hs2'
    have hs3' : ∀ k ∈ S3, w.heap.size ≤ k := fun k hk => (hs3 k hk).elim (hs2' k) (fun h => by have := g2.size; omega)
    clear hs3 f3 hd2 hs2'
    go_wp2_with fail
    refine (dWrite_spec _ bd _ S3 hd3 nameX (by decide) _ lb (HB.out.keepG g3) (fun k hk hkS => by have h1 := HB.out.lt k hk; have h2 := hs3' k hkS; omega) (by omega)).mono ?_
    rintro e w4 ⟨S4, rfl, hd4, f4, hs4⟩
    rw [nm3 _ _ _ (by omega)] at hd4 ⊢
    have g4 : Grew w w4 := grew_of_frm g3 f4 hs3'
    have hs4' : ∀ k ∈ S4, w.heap.size ≤ k := fun k hk => (hs4 k hk).elim (hs3' k) (fun h => by have := g3.size; omega)
    clear hs4 f4 hd3 hs3'
    go_wp2_with fail
    refine (dWrite_spec _ bd _ S4 hd4 nameY (by decide) _ lc (HC.out.keepG g4) (fun k hk hkS => by have h1 := HC.out.lt k hk; have h2 := hs4' k hkS; omega) (by omega)).mono ?_
    rintro e w5 ⟨S5, rfl, hd5, f5, hs5⟩
    rw [nm4 _ _ _ (by simp; omega)] at hd5 ⊢
    have g5 : Grew w w5 := grew_of_frm g4 f5 hs4'
    have hs5' : ∀ k ∈ S5, w.heap.size ≤ k := fun k hk => (hs5 k hk).elim (hs4' k) (fun h => by have := g4.size; omega)
    clear hs5 f5 hd4 hs4'
    cases sync with
    | true =>
      go_wp2_with fail
      refine (dSync_spec _ bd _ S5 hd5 nameX (by decide)).mono ?_
      rintro e w6 ⟨S6, rfl, hd6, f6, hs6⟩
      rw [nm5] at hd6 ⊢
      have g6 : Grew w w6 := grew_of_frm g5 f6 hs5'
      have hs6' : ∀ k ∈ S6, w.heap.size ≤ k := fun k hk => (hs6 k hk).elim (hs5' k) (fun h => by have := g5.size; omega)
      clear hs6 f6 hd5 hs5'
      go_wp2_with fail
      refine (dRename_spec _ bd _ S6 hd6 nameX nameY (by decide) (by decide)).mono ?_
      rintro e w7 ⟨S7, rfl, hd7, f7, hs7⟩
      rw [nm6] at hd7 ⊢
      have g7 : Grew w w7 := grew_of_frm g6 f7 hs6'
      have hs7' : ∀ k ∈ S7, w.heap.size ≤ k := fun k hk => (hs7 k hk).elim (hs6' k) (fun h => by have := g6.size; omega)
      clear hs7 f7 hd6 hs6'
      go_wp2_with fail
      refine (dNames_spec _ bd _ S7 hd7).mono ?_
      rintro e w8 ⟨vn, rfl, hvn, g78, _⟩
      rw [nm8] at hvn
      have hd8 := hd7.keepG g78
      have g8 : Grew w w8 := Grew.trans g7 g78
      have hs8' := hs7'
      clear hd7 hs7' g78
      go_wp2_with fail
      refine (texts_spec _ vn _ [nameY] [nameY] (hvn.rd.keepG (grew_alloc _ _)) (Own.lit w8 9 1 1 #[.string nameY] rfl (by unfold maxLen; omega)).rd).mono ?_
      rintro e w9 ⟨rfl, g89⟩
      rw [show decide ([nameY] = [nameY]) = true from decide_eq_true rfl]
      have g9 : Grew w w9 := Grew.trans (Grew.trans g8 (grew_alloc _ _)) g89
      have hd9 := (hd8.keepG (grew_alloc _ _)).keepG g89
      have hs9' := hs8'
      clear hd8 hs8' g89 hvn
      go_wp2_with fail
      refine (dRename_spec _ bd _ S7 hd9 nameX nameZ (by decide) (by decide)).mono ?_
      rintro e wA ⟨SA, rfl, hdA, fA, hsA⟩
      rw [nm7] at hdA ⊢
      have gA : Grew w wA := grew_of_frm g9 fA hs9'
      have hsA' : ∀ k ∈ SA, w.heap.size ≤ k := fun k hk => (hsA k hk).elim (hs9' k) (fun h => by have := g9.size; omega)
      clear hsA fA hd9 hs9'
      go_wp2_with fail
      refine (dCrash_spec _ bd _ SA hdA 0 (by decide) 0).mono ?_
      rintro e wB ⟨rfl, hdB, fB⟩
      rw [nm9] at hdB
      have gB : Grew w wB := grew_of_frm gA fB hsA'
      clear fB hdA
      go_wp2_with fail
      refine (dRead_spec _ bd _ SA hdB nameY (by decide)).mono ?_
      rintro e wC ⟨vp, rfl, hvp, gBC, _⟩
      rw [nm10] at hvp
      have gC : Grew w wC := Grew.trans gB gBC
      rw [List.take_length] at hvp
      clear hdB hsA'
      go_wp2_with (at_builtin; first
        | (refine wpList_appendB (.slice (some ⟨wC.heap.size, 0, none⟩) 0 0) (.slice aa la.length ca) [] la rfl _ _ rfl rfl rfl (Own.made wC 5 1) ((HA.out.keepG gC).keepG (grew_alloc wC _)) (by simp; omega) ?_
           intro v1 wD p1 p2 p3 p4
           have gCD : Grew wC wD := Frm.trans (grew_alloc wC _) p2 (fun k hk e => by simp [Value.ownBlock] at e; omega)
           have F1 : ∀ k, v1.ownBlock = some k → wC.heap.size ≤ k := append_fresh (Frm.refl _ wC) p3
           clear p2 p3 p4)
        | (refine wpList_appendB v1 (.slice ab lb.length cb) ([] ++ la) lb rfl _ _ rfl rfl rfl p1 (HB.out.keepG (Grew.trans gC gCD)) (by simp; omega) ?_
           intro v2 wE q1 q2 q3 q4
           clear q3 q4))
      have gCE : Grew wC wE := Frm.trans gCD q2 (fun k hk e => by have := F1 k e; omega)
      refine (same_spec _ vp v2 _ _ (hvp.rd.keepG gCE) q1.rd).mono ?_
      rintro e wF ⟨rfl, gF⟩
      rw [show decide (la ++ lb = [] ++ la ++ lb) = true from decide_eq_true (by simp)]
      go_wp2_with
        (go_at_call 9;
         (with_reducible refine (known_spec _).mono ?_)
         rintro e w' ⟨rfl, hg⟩)
      go_ret
      exact ⟨rfl, Grew.trans (Grew.trans gC gCE) (Grew.trans gF hg)⟩
    | false =>
      go_wp2_with fail
      refine (dRename_spec _ bd _ S5 hd5 nameX nameY (by decide) (by decide)).mono ?_
      rintro e w7 ⟨S7, rfl, hd7, f7, hs7⟩
      rw [nm6] at hd7 ⊢
      have g7 : Grew w w7 := grew_of_frm g5 f7 hs5'
      have hs7' : ∀ k ∈ S7, w.heap.size ≤ k := fun k hk => (hs7 k hk).elim (hs5' k) (fun h => by have := g5.size; omega)
      clear hs7 f7 hd5 hs5'
      go_wp2_with fail
      refine (dNames_spec _ bd _ S7 hd7).mono ?_
      rintro e w8 ⟨vn, rfl, hvn, g78, _⟩
      rw [nm8] at hvn
      have hd8 := hd7.keepG g78
      have g8 : Grew w w8 := Grew.trans g7 g78
      have hs8' := hs7'
      clear hd7 hs7' g78
      go_wp2_with fail
      refine (texts_spec _ vn _ [nameY] [nameY] (hvn.rd.keepG (grew_alloc _ _)) (Own.lit w8 9 1 1 #[.string nameY] rfl (by unfold maxLen; omega)).rd).mono ?_
      rintro e w9 ⟨rfl, g89⟩
      rw [show decide ([nameY] = [nameY]) = true from decide_eq_true rfl]
      have g9 : Grew w w9 := Grew.trans (Grew.trans g8 (grew_alloc _ _)) g89
      have hd9 := (hd8.keepG (grew_alloc _ _)).keepG g89
      have hs9' := hs8'
      clear hd8 hs8' g89 hvn
      go_wp2_with fail
      refine (dRename_spec _ bd _ S7 hd9 nameX nameZ (by decide) (by decide)).mono ?_
      rintro e wA ⟨SA, rfl, hdA, fA, hsA⟩
      rw [nm7] at hdA ⊢
      have gA : Grew w wA := grew_of_frm g9 fA hs9'
      have hsA' : ∀ k ∈ SA, w.heap.size ≤ k := fun k hk => (hsA k hk).elim (hs9' k) (fun h => by have := g9.size; omega)
      clear hsA fA hd9 hs9'
      go_wp2_with fail
      refine (dCrash_spec _ bd _ SA hdA 0 (by decide) 0).mono ?_
      rintro e wB ⟨rfl, hdB, fB⟩
      rw [nm9] at hdB
      have gB : Grew w wB := grew_of_frm gA fB hsA'
      clear fB hdA
      go_wp2_with fail
      refine (dRead_spec _ bd _ SA hdB nameY (by decide)).mono ?_
      rintro e wC ⟨vp, rfl, hvp, gBC, _⟩
      rw [nm10] at hvp
      have gC : Grew w wC := Grew.trans gB gBC
      rw [List.take_left] at hvp
      clear hdB hsA'
      go_wp2_with (at_builtin; first
        | (refine wpList_appendB (.slice (some ⟨wC.heap.size, 0, none⟩) 0 0) (.slice aa la.length ca) [] la rfl _ _ rfl rfl rfl (Own.made wC 5 1) ((HA.out.keepG gC).keepG (grew_alloc wC _)) (by simp; omega) ?_; intro v1 wD p1 p2 p3 p4))
      have gCD : Grew wC wD := Frm.trans (grew_alloc wC _) p2 (fun k hk e => by simp [Value.ownBlock] at e; omega)
      clear p3 p4
      refine (same_spec _ vp v1 _ _ (hvp.rd.keepG gCD) p1.rd).mono ?_
      rintro e wF ⟨rfl, gF⟩
      rw [show decide (la = [] ++ la) = true from decide_eq_true (by simp)]
      go_wp2_with
        (go_at_call 9;
         (with_reducible refine (known_spec _).mono ?_)
         rintro e w' ⟨rfl, hg⟩)
      go_ret
      exact ⟨rfl, Grew.trans (Grew.trans gC gCD) (Grew.trans gF hg)⟩
  · go_enter Try.func6, Try.ntmps6
    go_wp2_with fail
    go_ret
    exact ⟨rfl, Frm.refl _ w⟩
end Go.Proofs.Ytjcjajpndchfdaa
