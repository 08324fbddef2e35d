/- The walk of DiskKeeps. -/
import Derived.Test.YtjcjajpndchfdaaP
namespace Go.Proofs.Ytjcjajpndchfdaa
open Go.RowKit

/-- what the second loop keeps to -/
structure Keep2 (w : World) (bd : Nat) (L : List (List UInt8)) (s j : Nat) (va vs : Value) (wr : World) (S : List Nat) : Prop where
  d : DiskAt wr bd (stK L s j) S
  fresh : ∀ k ∈ S, w.heap.size ≤ k
  all : OwnB wr va (L.take j).flatten
  sure : OwnB wr vs (L.take (min j s)).flatten
  fa : ∀ k, va.ownBlock = some k → w.heap.size ≤ k ∧ k ∉ S
  fs : ∀ k, vs.ownBlock = some k → w.heap.size ≤ k ∧ k ∉ S
  ne : ∀ k, va.ownBlock = some k → vs.ownBlock ≠ some k
  g : Grew w wr

/-- .. behind the write and the append of a round -/
structure KeepW (w : World) (bd : Nat) (L : List (List UInt8)) (s j : Nat) (va vs : Value) (wr : World) (S : List Nat) : Prop where
  d : DiskAt wr bd (stW L s j) S
  fresh : ∀ k ∈ S, w.heap.size ≤ k
  all : OwnB wr va (L.take (j + 1)).flatten
  sure : OwnB wr vs (L.take (min j s)).flatten
  fa : ∀ k, va.ownBlock = some k → w.heap.size ≤ k ∧ k ∉ S
  fs : ∀ k, vs.ownBlock = some k → w.heap.size ≤ k ∧ k ∉ S
  ne : ∀ k, va.ownBlock = some k → vs.ownBlock ≠ some k
  g : Grew w wr

/-- behind the write -/
structure KeepV (w : World) (bd : Nat) (L : List (List UInt8)) (s j : Nat) (va vs : Value) (wr : World) (S : List Nat) : Prop where
  d : DiskAt wr bd (stW L s j) S
  fresh : ∀ k ∈ S, w.heap.size ≤ k
  all : OwnB wr va (L.take j).flatten
  sure : OwnB wr vs (L.take (min j s)).flatten
  fa : ∀ k, va.ownBlock = some k → w.heap.size ≤ k ∧ k ∉ S
  fs : ∀ k, vs.ownBlock = some k → w.heap.size ≤ k ∧ k ∉ S
  ne : ∀ k, va.ownBlock = some k → vs.ownBlock ≠ some k
  g : Grew w wr

theorem Keep2.write {w wr w2 : World} {bd : Nat} {L : List (List UInt8)} {s j : Nat} {va vs : Value} {S S2 : List Nat} (h : Keep2 w bd L s j va vs wr S) (hd : DiskAt w2 bd (stW L s j) S2) (f : Frm (· ∈ S) wr w2) (hs : ∀ k ∈ S2, k ∈ S ∨ wr.heap.size ≤ k) :
    KeepV w bd L s j va vs w2 S2 := by
  have hz := h.g.size
  refine ⟨hd, fun k hk => (hs k hk).elim (h.fresh k) (fun h' => by omega), h.all.keep f (fun k hk => (h.fa k hk).2), h.sure.keep f (fun k hk => (h.fs k hk).2),
    fun k hk => ⟨(h.fa k hk).1, fun hk2 => (hs k hk2).elim (h.fa k hk).2 (fun h' => by have := h.all.lt k hk; omega)⟩,
    fun k hk => ⟨(h.fs k hk).1, fun hk2 => (hs k hk2).elim (h.fs k hk).2 (fun h' => by have := h.sure.lt k hk; omega)⟩, h.ne, grew_of_frm h.g f h.fresh⟩

theorem KeepV.append {w w2 w3 : World} {bd : Nat} {L : List (List UInt8)} {s j : Nat} {va va' vs : Value} {S : List Nat} (h : KeepV w bd L s j va vs w2 S) (hj : j < L.length)
    (a1 : OwnB w3 va' ((L.take j).flatten ++ L[j])) (a2 : Frm (fun k => va.ownBlock = some k) w2 w3) (a3 : va'.ownBlock = va.ownBlock ∨ va'.ownBlock = some w2.heap.size) : KeepW w bd L s j va' vs w3 S := by
  have hz := h.g.size
  refine ⟨h.d.keep a2 (fun k hk e => (h.fa k e).2 hk), h.fresh, by rw [flat_succ L j hj]; exact a1, h.sure.keep a2 (fun k hk e => h.ne k e hk), ?_, h.fs, ?_, Frm.trans h.g a2 (fun k hk e => by have := (h.fa k e).1; omega)⟩
  · intro k hk
    rcases a3 with e | e
    · exact h.fa k (e ▸ hk)
    · rw [e] at hk; cases hk
      exact ⟨hz, fun hk => absurd (h.d.lt _ hk) (Nat.lt_irrefl _)⟩
  · intro k hk
    rcases a3 with e | e
    · exact h.ne k (e ▸ hk)
    · rw [e] at hk; cases hk
      exact fun hk => absurd (h.sure.lt _ hk) (Nat.lt_irrefl _)

theorem KeepW.next {w w3 : World} {bd : Nat} {L : List (List UInt8)} {s j : Nat} {va vs : Value} {S : List Nat} (h : KeepW w bd L s j va vs w3 S) (hj : ¬ j < s) : Keep2 w bd L s (j + 1) va vs w3 S := by
  have e1 : min (j + 1) s = min j s := by omega
  exact ⟨stW_next L s j hj ▸ h.d, h.fresh, h.all, by rw [e1]; exact h.sure, h.fa, h.fs, h.ne, h.g⟩

/-- behind the sync -/
theorem KeepW.sync {w w3 w4 : World} {bd : Nat} {L : List (List UInt8)} {s j : Nat} {va vs : Value} {S S4 : List Nat} (h : KeepW w bd L s j va vs w3 S) (hd : DiskAt w4 bd (stK L s (j + 1)) S4) (f : Frm (· ∈ S) w3 w4) (hs : ∀ k ∈ S4, k ∈ S ∨ w3.heap.size ≤ k) :
    OwnB w4 va (L.take (j + 1)).flatten ∧ Grew w w4 ∧ (∀ k ∈ S4, w.heap.size ≤ k) ∧ (∀ k, va.ownBlock = some k → w.heap.size ≤ k ∧ k ∉ S4) ∧ DiskAt w4 bd (stK L s (j + 1)) S4 := by
  have hz := h.g.size
  exact ⟨h.all.keep f (fun k hk => (h.fa k hk).2), grew_of_frm h.g f h.fresh, fun k hk => (hs k hk).elim (h.fresh k) (fun h' => by omega),
    fun k hk => ⟨(h.fa k hk).1, fun hk2 => (hs k hk2).elim (h.fa k hk).2 (fun h' => by have := h.all.lt k hk; omega)⟩, hd⟩

theorem keep_sure {w w4 w5 : World} {bd : Nat} {L : List (List UInt8)} {s j : Nat} {va vs' : Value} {S4 : List Nat} (hj : j < s) (h1 : OwnB w4 va (L.take (j + 1)).flatten) (h2 : Grew w w4) (h3 : ∀ k ∈ S4, w.heap.size ≤ k) (h4 : ∀ k, va.ownBlock = some k → w.heap.size ≤ k ∧ k ∉ S4) (h5 : DiskAt w4 bd (stK L s (j + 1)) S4)
    (a1 : OwnB w5 vs' (L.take (j + 1)).flatten) (a2 : Grew w4 w5) (a3 : ∀ k, vs'.ownBlock = some k → w4.heap.size ≤ k) : Keep2 w bd L s (j + 1) va vs' w5 S4 := by
  have hz := h2.size
  have e1 : min (j + 1) s = j + 1 := by omega
  exact ⟨h5.keepG a2, h3, h1.keepG a2, by rw [e1]; exact a1, h4, fun k hk => ⟨by have := a3 k hk; omega, fun hk2 => by have := h5.lt k hk2; have := a3 k hk; omega⟩,
    fun k hk e => by have := h1.lt k hk; have := a3 k e; omega, Grew.trans h2 a2⟩

set_option maxRecDepth 100000 in
set_option maxHeartbeats 4000000 in
theorem keeps_walk (w : World) (v : Value) (vs : List Value) (L : List (List UInt8)) (hR : RowsAt w v vs L) (synced : Int) (hs1 : -9223372036854775808 ≤ synced) (hs2 : synced ≤ 9223372036854775807) (draw : Int) (_hd1 : -9223372036854775808 ≤ draw) (hd2 : draw ≤ 9223372036854775807) (tear : UInt8)
    (hrows : ∀ l ∈ L, l.length ≤ 140737488351232) :
    Calls Try.prog 3 #[v, .int .i64 synced, .int .i64 draw, .int .u8 (tear.toNat : Int)] w (BoolPost w true) := by
  obtain ⟨ra, rc, rfl, r1, r2, r3⟩ := hR.rd.shape
  unfold maxLen at r2 r3
  have HR := Lib.hid hR
  have Hrows := Lib.hid hrows
  clear hR hrows
  go_enter Try.func3, Try.ntmps3
  go_wp2_with fail
  go_loopg [9, 10] (L.length + 1) (fun gk n i wr => ∃ j : Nat, j ≤ L.length ∧ gk + j = L.length + 1 ∧ i = .int .i64 j ∧ n = .int .i64 (tot (L.take j)) ∧ w = wr ∧ tot (L.take j) ≤ 140737488400000)
  case atStart => exact ⟨0, Nat.zero_le _, rfl, rfl, rfl, rfl, Nat.zero_le _⟩
  case round =>
    obtain ⟨j, hj, hgk, rfl, rfl, rfl, htb⟩ := hrel
    have Hgk := Lib.hid hgk
    clear hgk
    by_cases hlt : j < L.length
    · by_cases hmost : tot (L.take j) ≤ 8000
      · obtain ⟨g, off, rfl⟩ := HR.out.rd.addr (by omega) rfl
        obtain ⟨a, c, hc, hb⟩ := HR.out.at_ rfl j hlt
        have hlj := Hrows.out L[j] (List.getElem_mem hlt)
        have hts := tot_succ L j hlt
        have Hts := Lib.hid hts
        have Hb := Lib.hid hb
        clear hts hb
        go_wp2_with fail
        go_roundg (gk - 1)
        case measure => have := Hgk.out; omega
        case rel => exact ⟨j + 1, by omega, by have := Hgk.out; omega, by go_num, by rw [Hts.out]; exact congrArg (Value.int .i64) (by omega), rfl, by have := Hts.out; omega⟩
      · go_wp2_with
          (go_at_call 9;
           (with_reducible refine (known_spec _).mono ?_)
           rintro e w' ⟨rfl, hg⟩)
        go_ret
        exact ⟨rfl, hg⟩
    · have hjl : j = L.length := by omega
      subst hjl
      rw [List.take_length] at htb ⊢
      by_cases hmost : tot L ≤ 8000
      · go_wp2_with fail
        refine (dNew_spec _ 1048576).mono ?_
        rintro e w1 hp
        unfold NewPost at hp
        rw [if_neg (by omega)] at hp
        obtain ⟨bd, S1, rfl, hd1, g1, hs1'⟩ := hp
        have hk0 : Keep2 w bd L synced.toNat 0 (.slice none 0 0) (.slice none 0 0) w1 S1 :=
          ⟨hd1, hs1', Own.nil w1 5 1, (by simp only [Nat.zero_min, List.take_zero, List.flatten_nil]; exact Own.nil w1 5 1), (fun k h => by cases h), (fun k h => by cases h), (fun k h => by cases h), g1⟩
        clear hd1 hs1' g1 Hgk
        go_wp2_with fail
        go_loopg [13, 14, 15] (L.length + 1) (fun gk va vs i wr => ∃ (j : Nat) (S : List Nat), j ≤ L.length ∧ gk + j = L.length + 1 ∧ i = .int .i64 j ∧ Keep2 w bd L synced.toNat j va vs wr S)
        case atStart => exact ⟨0, S1, Nat.zero_le _, rfl, rfl, hk0⟩
        case round =>
          obtain ⟨j, S, hj, hgk, rfl, hK⟩ := hrel
          have Hgk := Lib.hid hgk
          clear hgk
          by_cases hlt : j < L.length
          · obtain ⟨g, off, rfl⟩ := HR.out.rd.addr (by omega) rfl
            obtain ⟨a, c, hc0, hb0⟩ := HR.out.at_ rfl j hlt
            have hc := hK.g.cellG hc0
            have hlj : L[j].length ≤ 8000 := by have h1 := tot_succ L j hlt; have h2 := tot_le L (j + 1); omega
            have hlf : (L.take j).flatten.length ≤ 8000 := by have := flat_take_le L j; omega
            have hlf2 : (L.take (j + 1)).flatten.length ≤ 8000 := by have := flat_take_le L (j + 1); omega
            have Hbl := Lib.hid (hb0.lt)
            have Hb0 := Lib.hid hb0
            have Hc0 := Lib.hid hc0
            clear hc0 hb0
            have HK := Lib.hid hK
            clear hK
            go_wp2_with fail
            refine (dWrite_spec _ bd _ S HK.out.d nameF (by decide) _ L[j] (Hb0.out.keepG HK.out.g) (fun k hk hkS => by have h1 := Hbl.out k hk; have h2 := HK.out.fresh k hkS; omega) (by omega)).mono ?_
            rintro e w2 ⟨S2, rfl, hd2, f2, hs2⟩
            rw [stK_write L _ j hlt hmost] at hd2 ⊢
            have hV := HK.out.write hd2 f2 hs2
            have HV := Lib.hid hV
            have hc2 := hV.g.cellG Hc0.out
            clear hd2 f2 hs2 hV hc
            by_cases hsy : j < synced.toNat
            · have hsy' : (j : Int) < synced := by omega
              go_wp2_with (at_builtin; refine wpList_appendB _ (.slice a L[j].length c) (L.take j).flatten L[j] rfl _ _ rfl rfl rfl HV.out.all (Hb0.out.keepG HV.out.g) (by omega) ?_; intro va' w3 a1 a2 a3 a4)
              have hW := HV.out.append hlt a1 a2 a3
              have HW := Lib.hid hW
              clear hW a1 a2 a3 a4
              refine (dSync_spec _ bd _ S2 HW.out.d nameF (by decide)).mono ?_
              rintro e w4 ⟨S4, rfl, hd4, f4, hs4⟩
              rw [stW_sync L _ j hsy] at hd4 ⊢
              obtain ⟨q1, q2, q3, q4, q5⟩ := HW.out.sync hd4 f4 hs4
              have Q := Lib.hid (And.intro q1 (And.intro q2 (And.intro q3 (And.intro q4 q5))))
              clear hd4 f4 hs4 q1 q2 q3 q4 q5
              go_wp2_with (at_builtin; refine wpList_appendB (.slice (some ⟨w4.heap.size, 0, none⟩) 0 0) _ [] (L.take (j + 1)).flatten rfl _ _ rfl rfl rfl (Own.made w4 5 1) (Q.out.1.rd.keepG (grew_alloc w4 _)) (by show 0 + _ ≤ _; omega) ?_; intro vs' w5 a1 a2 a3 a4)
              obtain ⟨q1, q2, q3, q4, q5⟩ := Q.out
              have hnx := keep_sure hsy q1 q2 q3 q4 q5 (by simpa using a1) (Frm.trans (grew_alloc w4 _) a2 (fun k hk e => by simp [Value.ownBlock] at e; omega)) (fun k hk => by rcases a3 with e | e <;> rw [e] at hk <;> simp [Value.ownBlock] at hk <;> omega)
              go_roundg (gk - 1)
              case measure => have := Hgk.out; omega
              case rel => exact ⟨j + 1, S4, by omega, by have := Hgk.out; omega, by go_num, hnx⟩
            · have hsy' : ¬ (j : Int) < synced := by omega
              go_wp2_with (at_builtin; refine wpList_appendB _ (.slice a L[j].length c) (L.take j).flatten L[j] rfl _ _ rfl rfl rfl HV.out.all (Hb0.out.keepG HV.out.g) (by omega) ?_; intro va' w3 a1 a2 a3 a4)
              have hW := HV.out.append hlt a1 a2 a3
              go_roundg (gk - 1)
              case measure => have := Hgk.out; omega
              case rel => exact ⟨j + 1, S2, by omega, by have := Hgk.out; omega, by go_num, hW.next hsy⟩
          · have hjl : j = L.length := by omega
            subst hjl
            have HK := Lib.hid hK
            clear hK
            go_wp2_with fail
            refine (dCrash_spec _ bd _ S HK.out.d draw hd2 tear).mono ?_
            rintro e w2 ⟨rfl, hd2', f2⟩
            have g2 : Grew w w2 := grew_of_frm HK.out.g f2 HK.out.fresh
            have hall : OwnB w2 u13 (L.take L.length).flatten := HK.out.all.keep f2 (fun k hk => (HK.out.fa k hk).2)
            have hsure : OwnB w2 u14 (L.take (min L.length synced.toNat)).flatten := HK.out.sure.keep f2 (fun k hk => (HK.out.fs k hk).2)
            rw [List.take_length] at hall
            have Hall := Lib.hid hall
            have Hsure := Lib.hid hsure
            clear hall hsure f2
            obtain ⟨aa, ac, hae, _, _, _⟩ := Hall.out.rd.shape
            obtain ⟨sa, sc, hse, _, _, _⟩ := Hsure.out.rd.shape
            subst hae
            subst hse
            have hal : L.flatten.length ≤ 8000 := by have := flat_le_tot L; omega
            have hsl : (L.take (min L.length synced.toNat)).flatten.length ≤ L.flatten.length := by have := flat_mono L (Nat.min_le_left L.length synced.toNat); rw [List.take_length] at this; exact this
            generalize hAl : L.flatten = AL at *
            generalize hSl : (L.take (min L.length synced.toNat)).flatten = SL at *
            have HAl := Lib.hid hAl
            have HSl := Lib.hid hSl
            clear hAl hSl
            go_wp2_with fail
            refine (dRead_spec _ bd _ S hd2' nameF (by decide)).mono ?_
            rintro e w3 ⟨v, rfl, hv, g3, _⟩
            have g3' : Grew w w3 := Grew.trans g2 g3
            by_cases hn0 : L.length = 0
            · have hz : (((L.length : Nat) : Int) == 0) = true := by simp [hn0]
              rw [hn0] at hd2'
              rw [hn0, stK_crash0, read_none]
              have Hn0 := Lib.hid hn0
              clear hn0 hd2' hv
              go_wp2_with
                (go_at_call 9;
                 (with_reducible refine (known_spec _).mono ?_)
                 rintro e w' ⟨rfl, hg⟩)
              go_ret
              exact ⟨rfl, Grew.trans g3' hg⟩
            · have hz : (((L.length : Nat) : Int) == 0) = false := beq_eq_false_iff_ne.2 (by omega)
              rw [stK_crash L _ _ (by omega), List.take_length, HAl.out, HSl.out, (read_one _ _ _).1]
              rw [stK_crash L _ _ (by omega), List.take_length, HAl.out, HSl.out, (read_one _ _ _).2] at hv
              obtain ⟨st, hst, hst1, hst2, hbyte⟩ := crashF_data draw tear ⟨AL, SL.length⟩ hsl
              generalize (MD.crashF draw tear ⟨AL, SL.length⟩).data = B at *
              simp only at hst1 hst2 hbyte
              obtain ⟨ba, bc', hbe, _, _, _⟩ := hv.rd.shape
              subst hbe
              have Hn0 := Lib.hid hn0
              have Hbyte := Lib.hid hbyte
              have Hv := Lib.hid hv
              clear hn0 hd2' hv hbyte
              subst hst
              have hBA : B.length ≤ AL.length := hst2
              clear hst2
              have p1 : decide (B.length < SL.length) = false := decide_eq_false (by have : SL.length ≤ B.length := hst1; omega)
              have p2 : decide (AL.length < B.length) = false := decide_eq_false (by omega)
              by_cases hb0 : B.length = 0
              · have p3 : decide (0 < B.length) = false := decide_eq_false (by omega)
                have Hb0 := Lib.hid hb0
                clear hb0
                go_wp2_with fail
                go_loopg [8, 19, 20] 1 (fun gk _ i _ wr => ∃ j : Nat, j ≤ 0 ∧ i = .int .i64 j ∧ w3 = wr)
                case atStart => exact ⟨0, Nat.zero_le _, rfl, rfl⟩
                case round =>
                  obtain ⟨j, hj, rfl, rfl⟩ := hrel
                  have p4 : decide (j < B.length) = false := decide_eq_false (by have := Hb0.out; omega)
                  go_wp2_with
                    (go_at_call 9;
                     (with_reducible refine (known_spec _).mono ?_)
                     rintro e w' ⟨rfl, hg⟩)
                  go_ret
                  exact ⟨rfl, Grew.trans g3' hg⟩
              · have p3 : decide (0 < B.length) = true := decide_eq_true (by omega)
                go_wp2_with fail
                go_loopg [8, 19, 20] (B.length + 1) (fun gk _ i _ wr => ∃ j : Nat, j ≤ B.length ∧ gk + j = B.length + 1 ∧ i = .int .i64 j ∧ w3 = wr)
                case atStart => exact ⟨0, Nat.zero_le _, rfl, rfl, rfl⟩
                case round =>
                  obtain ⟨j, hj, hgk, rfl, rfl⟩ := hrel
                  have Hgk := Lib.hid hgk
                  clear hgk
                  by_cases hlt : j < B.length
                  · obtain ⟨ga, rfl⟩ := Hall.out.addr (by omega)
                    obtain ⟨gb, rfl⟩ := Hv.out.addr (by omega)
                    have ca := bytes_cell (Hall.out.keepG g3).rd j (by omega)
                    have cb := bytes_cell Hv.out.rd j hlt
                    rw [Nat.zero_add] at ca cb
                    have hB := Hbyte.out j hlt (by omega)
                    by_cases hx : SL.length ≤ j ∧ (B.length - 1) / 32 * 32 ≤ j
                    · rw [if_pos hx] at hB
                      have cx : w3.cell? ⟨gb, j, none⟩ = some (Value.int .u8 (bits .xor .u8 (AL[j].toNat : Int) (tear.toNat : Int))) := by rw [xor_cell, ← hB]; exact cb
                      clear cb
                      have q1 := hx.1
                      have q2 : ((B.length : Int) - 1) / 32 * 32 ≤ (j : Int) := by omega
                      clear hB hx
                      go_wp2_with fail
                      go_roundg (gk - 1)
                      case measure => have := Hgk.out; omega
                      case rel => exact ⟨j + 1, by omega, by have := Hgk.out; omega, by go_num, rfl⟩
                    · rw [if_neg hx] at hB
                      rw [hB] at cb
                      by_cases q1 : SL.length ≤ j
                      · have q2 : ¬ ((B.length : Int) - 1) / 32 * 32 ≤ (j : Int) := by omega
                        clear hB hx
                        go_wp2_with fail
                        go_roundg (gk - 1)
                        case measure => have := Hgk.out; omega
                        case rel => exact ⟨j + 1, by omega, by have := Hgk.out; omega, by go_num, rfl⟩
                      · clear hB hx
                        go_wp2_with fail
                        go_roundg (gk - 1)
                        case measure => have := Hgk.out; omega
                        case rel => exact ⟨j + 1, by omega, by have := Hgk.out; omega, by go_num, rfl⟩
                  · go_wp2_with
                      (go_at_call 9;
                       (with_reducible refine (known_spec _).mono ?_)
                       rintro e w' ⟨rfl, hg⟩)
                    go_ret
                    exact ⟨rfl, Grew.trans g3' hg⟩
      · go_wp2_with
          (go_at_call 9;
           (with_reducible refine (known_spec _).mono ?_)
           rintro e w' ⟨rfl, hg⟩)
        go_ret
        exact ⟨rfl, hg⟩
end Go.Proofs.Ytjcjajpndchfdaa
