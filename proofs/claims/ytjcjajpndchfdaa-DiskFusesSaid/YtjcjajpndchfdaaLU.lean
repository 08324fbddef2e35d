/- The walk of DiskFuses. -/
import Derived.Test.YtjcjajpndchfdaaPF
namespace Go.Proofs.Ytjcjajpndchfdaa
open Go.RowKit

set_option maxRecDepth 100000 in
set_option maxHeartbeats 4000000 in
theorem fuses_walk (w : World) (v : Value) (vs : List Value) (L : List (List UInt8)) (hR : RowsAt w v vs L) (n : Int) (_hn1 : -9223372036854775808 ≤ n) (hn2 : n ≤ 9223372036854775807)
    (hrows : ∀ l ∈ L, l.length ≤ 140737488351232) :
    Calls Try.prog 5 #[.int .i64 n, v] w (BoolPost w true) := by
  obtain ⟨ra, rc, rfl, r1, r2, r3⟩ := hR.rd.shape
  unfold maxLen at r2 r3
  have HR := Lib.hid hR
  have Hrows := Lib.hid hrows
  clear hR hrows
  go_enter Try.func5, Try.ntmps5
  go_wp2_with fail
  go_loopg [5, 6] (L.length + 1) (fun gk n i wr => ∃ j : Nat, j ≤ L.length ∧ gk + j = L.length + 1 ∧ i = .int .i64 j ∧ n = .int .i64 (tot (L.take j)) ∧ w = wr ∧ tot (L.take j) ≤ 140737488400000)
  case atStart => exact ⟨0, Nat.zero_le _, rfl, rfl, rfl, rfl, Nat.zero_le _⟩
  case round =>
    obtain ⟨j, hj, hgk, rfl, rfl, rfl, htb⟩ := hrel
    have Hgk := Lib.hid hgk
    clear hgk
    by_cases hlt : j < L.length
    · by_cases hmost : tot (L.take j) ≤ 8000
      · obtain ⟨g, off, rfl⟩ := HR.out.rd.addr (by omega) rfl
        obtain ⟨a, c, hc, hb⟩ := HR.out.at_ rfl j hlt
        have hlj := Hrows.out L[j] (List.getElem_mem hlt)
        have hts := tot_succ L j hlt
        have Hts := Lib.hid hts
        have Hb := Lib.hid hb
        clear hts hb
        go_wp2_with fail
        go_roundg (gk - 1)
        case measure => have := Hgk.out; omega
        case rel => exact ⟨j + 1, by omega, by have := Hgk.out; omega, by go_num, by rw [Hts.out]; exact congrArg (Value.int .i64) (by omega), rfl, by have := Hts.out; omega⟩
      · go_wp2_with
          (go_at_call 9;
           (with_reducible refine (known_spec _).mono ?_)
           rintro e w' ⟨rfl, hg⟩)
        go_ret
        exact ⟨rfl, hg⟩
    · have hjl : j = L.length := by omega
      subst hjl
      rw [List.take_length] at htb ⊢
      by_cases hmost : tot L ≤ 8000 ∧ ¬ n < 0 ∧ ¬ 1000 < n
      · obtain ⟨hmost, hn0, hn1000⟩ := hmost
        obtain ⟨k, rfl⟩ : ∃ k : Nat, n = (k : Int) := ⟨n.toNat, by omega⟩
        go_wp2_with fail
        refine (dNew_spec _ 1048576).mono ?_
        rintro e w1 hp
        unfold NewPost at hp
        rw [if_neg (by omega)] at hp
        obtain ⟨bd, S1, rfl, hd1, g1, hs1'⟩ := hp
        go_wp2_with fail
        refine (dFuse_spec _ bd _ S1 hd1 k hn2).mono ?_
        rintro e w2 ⟨rfl, hd2, f2⟩
        have h1048576 : (1048576 : Int).toNat = 1048576 := rfl
        rw [h1048576, fuK_start L k (by omega), Int.toNat_natCast] at hd2
        have g2 : Grew w w2 := grew_of_frm g1 f2 hs1'
        clear hd1 g1 Hgk f2 h1048576
        go_wp2_with fail
        go_loopg [4, 9, 10] (L.length + 1) (fun gk _ i _ wr => ∃ (j : Nat) (S : List Nat), j ≤ L.length ∧ gk + j = L.length + 1 ∧ i = .int .i64 j ∧ DiskAt wr bd (fuK L k j) S ∧ (∀ b ∈ S, w.heap.size ≤ b) ∧ Grew w wr)
        case atStart => exact ⟨0, S1, Nat.zero_le _, rfl, rfl, hd2, hs1', g2⟩
        case round =>
          obtain ⟨j, S, hj, hgk, rfl, hd, hs, hg⟩ := hrel
          have Hgk := Lib.hid hgk
          clear hgk hd2 g2 hs1'
          have Hd := Lib.hid hd
          have Hs := Lib.hid hs
          have Hg := Lib.hid hg
          clear hd hs
          by_cases hlt : j < L.length
          · obtain ⟨g, off, rfl⟩ := HR.out.rd.addr (by omega) rfl
            obtain ⟨a, c, hc0, hb0⟩ := HR.out.at_ rfl j hlt
            have hc := hg.cellG hc0
            have hlj : L[j].length ≤ 8000 := by have h1 := tot_succ L j hlt; have h2 := tot_le L (j + 1); omega
            have Hbl := Lib.hid (hb0.lt)
            have Hb0 := Lib.hid hb0
            clear hc0 hb0 hg
            go_wp2_with fail
            refine (dWrite_spec _ bd _ S Hd.out nameF (by decide) _ L[j] (Hb0.out.keepG Hg.out) (fun k hk hkS => by have h1 := Hbl.out k hk; have h2 := Hs.out k hkS; omega) (by omega)).mono ?_
            rintro e w3 ⟨S2, rfl, hd3, f3, hs3⟩
            have g3 : Grew w w3 := grew_of_frm Hg.out f3 Hs.out
            have hz := Hg.out.size
            have hs3' : ∀ b ∈ S2, w.heap.size ≤ b := fun b hb => (hs3 b hb).elim (Hs.out b) (fun h => by omega)
            by_cases hpass : j < k
            · rw [fuK_pass L k j hpass hlt hmost] at hd3 ⊢
              have Hall := Lib.hid (And.intro hd3 (And.intro hs3' g3))
              clear hd3 hs3' g3 f3 hs3 hz
              go_wp2_with fail
              go_roundg (gk - 1)
              case measure => have := Hgk.out; omega
              case rel => exact ⟨j + 1, S2, by omega, by have := Hgk.out; omega, by go_num, Hall.out.1, Hall.out.2.1, Hall.out.2.2⟩
            · rw [fuK_dead L k j hpass] at hd3 ⊢
              have Hall := Lib.hid (And.intro hd3 (And.intro hs3' g3))
              clear hd3 hs3' g3 f3 hs3 hz
              go_wp2_with fail
              go_roundg (gk - 1)
              case measure => have := Hgk.out; omega
              case rel => exact ⟨j + 1, S2, by omega, by have := Hgk.out; omega, by go_num, Hall.out.1, Hall.out.2.1, Hall.out.2.2⟩
          · have hjl : j = L.length := by omega
            subst hjl
            go_wp2_with fail
            refine (dRemove_spec _ bd _ S Hd.out nameNone (by decide)).mono ?_
            obtain ⟨er, her, her7⟩ := fuK_remove L k L.length
            rw [her]
            rintro e w3 ⟨S3, rfl, hd3, f3, hs3⟩
            have g3 : Grew w w3 := grew_of_frm Hg.out f3 Hs.out
            have hz := Hg.out.size
            have hs3' : ∀ b ∈ S3, w.heap.size ≤ b := fun b hb => (hs3 b hb).elim (Hs.out b) (fun h => by omega)
            have her8 : (er == 7) = decide ((L.length : Int) < (k : Int)) := by rw [her7]; congr 1; exact propext ⟨fun h => by omega, fun h => by omega⟩
            have Hall := Lib.hid (And.intro hd3 (And.intro hs3' g3))
            clear her her7 hd3 hs3' g3 f3 hs3 hz
            go_wp2_with fail
            refine (dCrash_spec _ bd _ S3 Hall.out.1 0 (by omega) 0).mono ?_
            rintro e w4 ⟨rfl, hd4, f4⟩
            have g4 : Grew w w4 := grew_of_frm Hall.out.2.2 f4 Hall.out.2.1
            go_wp2_with fail
            refine (dWrite_spec _ bd _ S3 hd4 nameZ (by decide) _ [] (Rd.nil _ _ 1) (fun k hk => by cases hk) (by decide)).mono ?_
            rintro e w5 ⟨S5, rfl, hd5, f5, hs5⟩
            rw [fuK_last L k _ hmost]
            go_wp2_with
              (go_at_call 9;
               (with_reducible refine (known_spec _).mono ?_)
               rintro e w' ⟨rfl, hg⟩)
            go_ret
            exact ⟨rfl, Grew.trans (grew_of_frm g4 f5 Hall.out.2.1) hg⟩
      · have hcond : (8000 < tot L) ∨ (n < 0) ∨ (1000 < n) := by omega
        by_cases c1 : 8000 < tot L
        · go_wp2_with
            (go_at_call 9;
             (with_reducible refine (known_spec _).mono ?_)
             rintro e w' ⟨rfl, hg⟩)
          go_ret
          exact ⟨rfl, hg⟩
        · by_cases c2 : n < 0
          · go_wp2_with
              (go_at_call 9;
               (with_reducible refine (known_spec _).mono ?_)
               rintro e w' ⟨rfl, hg⟩)
            go_ret
            exact ⟨rfl, hg⟩
          · have c3 : 1000 < n := by omega
            go_wp2_with
              (go_at_call 9;
               (with_reducible refine (known_spec _).mono ?_)
               rintro e w' ⟨rfl, hg⟩)
            go_ret
            exact ⟨rfl, hg⟩
end Go.Proofs.Ytjcjajpndchfdaa
