/- New, Read, Fuse. -/
import Derived.Test.YtjcjajpndchfdaaF
namespace Go.Proofs.Ytjcjajpndchfdaa
open Go.RowKit

def NewPost (w : World) (room : Int) (e : Ending) (w' : World) : Prop :=
  if room < 0 ∨ 1073741824 < room then e = .returned (.tuple #[.pointer none, .int .i64 1]) ∧ w' = w else
  ∃ bd S, e = .returned (.tuple #[.pointer (some ⟨bd, 0, none⟩), .int .i64 0]) ∧ DiskAt w' bd ⟨room.toNat, [], none⟩ S ∧ Grew w w' ∧ ∀ k ∈ S, w.heap.size ≤ k

set_option maxHeartbeats 1000000 in
theorem dNew_spec (w : World) (room : Int) : Calls Try.prog 10 #[.int .i64 room] w (NewPost w room) := by
  have hmm := @run_makeMap Try.prog
  by_cases hb : room < 0 ∨ 1073741824 < room
  · have Hb := Lib.hid hb
    rcases hb with hb | hb
    · go_enter Try.func10, Try.ntmps10
      go_wp2_with fail
      go_ret2
      unfold NewPost; rw [if_pos Hb.out]; exact ⟨rfl, rfl⟩
    · have hb0 : ¬ room < 0 := by omega
      go_enter Try.func10, Try.ntmps10
      go_wp2_with fail
      go_ret2
      unfold NewPost; rw [if_pos Hb.out]; exact ⟨rfl, rfl⟩
  · have Hb := Lib.hid hb
    have hb0 : ¬ room < 0 := by omega
    have hb1 : ¬ 1073741824 < room := by omega
    clear hb
    go_enter Try.func10, Try.ntmps10
    go_wp2_with fail
    go_ret2
    unfold NewPost; rw [if_neg Hb.out]
    have g1 := grew_alloc w (.map #[] 0)
    have g2 := grew_alloc (w.alloc (.map #[] 0)) (.cells #[.int .i64 room, .map (some w.heap.size), .bool false, .int .i64 0] 60 (0, 0))
    refine ⟨w.heap.size + 1, [w.heap.size + 1, w.heap.size], rfl, ⟨w.heap.size, false, 0, [], ?_, rfl, ?_, by simp, rfl, rfl, by simp, ?_⟩, Grew.trans g1 g2, by simp⟩
    · have h := heap_alloc_new' (w.alloc (.map #[] 0)) (.cells #[.int .i64 room, .map (some w.heap.size), .bool false, .int .i64 0] 60 (0, 0))
      simp only [World.size_alloc] at h
      rw [Int.toNat_of_nonneg (by omega)]
      exact h
    · exact (MapB.empty w).keepG g2
    · refine ⟨by show room.toNat ≤ _; omega, by simp [MD.used], by simp, by simp, by simp, by simp⟩

def readCode (D : MD) (nm : ByteArray) : Int := if (MD.find D.files nm).isSome then 0 else 7
def readData (D : MD) (nm : ByteArray) : List UInt8 := ((MD.find D.files nm).map (·.data)).getD []
def ReadPost (w : World) (c : Int) (l : List UInt8) (e : Ending) (w' : World) : Prop :=
  ∃ v, e = .returned (.tuple #[v, .int .i64 c]) ∧ OwnB w' v l ∧ Grew w w' ∧ Fresh w v

theorem data_le {D : MD} (h : D.Ok) {s : ByteArray} {f : MF} (hf : (s, f) ∈ D.files) : f.data.length ≤ 1073741824 := by
  obtain ⟨p, q, e⟩ := List.append_of_mem hf
  have := h.used
  have hr := h.room
  rw [e, used_append, used_cons] at this
  simp only at this
  omega

set_option maxRecDepth 100000 in
set_option maxHeartbeats 1000000 in
theorem dRead_spec (w : World) (bd : Nat) (D : MD) (S : List Nat) (hD : DiskAt w bd D S) (nm : ByteArray) (hnm : nm.size ≤ 64) :
    Calls Try.prog 14 #[.pointer (some ⟨bd, 0, none⟩), .string nm] w (ReadPost w (readCode D nm) (readData D nm)) := by
  obtain ⟨bm, fused, left, rows, h1, h2, h3, h4, h5, hS, hnd, hok⟩ := hD
  have H5 := Lib.hid h5
  clear h5 hS hnd
  go_enter Try.func14, Try.ntmps14
  refine wp_ext fun s => ?_
  have e2 := ext_cell h1 1 _ rfl
  rcases map_look' h3 strKey Try.underlying58 zeroFile (keyS hnm) with ⟨pre, v, post, hsp, hlk⟩ | ⟨habs, hlk⟩
  · obtain ⟨q1, r, q2, rfl, rfl, rfl, hrn, rfl⟩ := row_of_kv hsp
    obtain rfl : nm = r.name := by injection hrn
    clear hrn
    have el : ∀ s : Ext w, (Instr.lookup 58 (.map (some bm)) (.string r.name) false).run Try.prog s.w = .ok (.pointer (some ⟨r.bf, 0, none⟩)) s.w := fun s => hlk s.w (s.h.block bm h3.lt (fun f => f))
    have hf1 := (h4 r (by simp))
    have e7 := ext_cell hf1.1 0 _ rfl
    obtain ⟨da, dc, hdv, _, _, _⟩ := hf1.2.rd.shape
    have e7 : ∀ s : Ext w, s.w.cell? ⟨r.bf, 0, none⟩ = some (.slice da r.f.data.length dc) := hdv ▸ e7
    have hb := data_le hok (by rw [H5.out]; simp : (r.name, r.f) ∈ D.files)
    have hcl := fun s : Ext w => bclone_spec s.w (.slice da r.f.data.length dc) r.f.data (hdv ▸ hf1.2.rd.keepG s.h) (by omega)
    have Hcl := Lib.hid hcl
    clear hcl hlk
    go_wp2_with
      (go_at_call 32;
       (with_reducible refine (Hcl.out _).mono ?_)
       rintro e w2 ⟨v', rfl, a1, a2, a3⟩)
    go_ret2
    have hfd : MD.find D.files r.name = some r.f := by rw [H5.out]; exact find_rows (mid_names (names_of_kv h3.distinct)).1
    refine ⟨v', by unfold readCode; rw [hfd]; rfl, by unfold readData; rw [hfd]; exact a1, Grew.trans s.h a2, fun k hk => Nat.le_trans s.h.size (a3 k hk)⟩
  · have el : ∀ s : Ext w, (Instr.lookup 58 (.map (some bm)) (.string nm) false).run Try.prog s.w = .ok (.pointer none) s.w := fun s => hlk s.w (s.h.block bm h3.lt (fun f => f))
    have hfd : MD.find D.files nm = none := by rw [H5.out]; exact find_none (absent_rows habs)
    have Hfd := Lib.hid hfd
    clear hlk habs hfd
    go_wp2_with fail
    go_ret2
    exact ⟨_, by unfold readCode; rw [Hfd.out]; rfl, by unfold readData; rw [Hfd.out]; exact Own.nil _ 5 1, s.h, fun k hk => by cases hk⟩

def FusePost (w : World) (bd : Nat) (D : MD) (S : List Nat) (e : Ending) (w' : World) : Prop :=
  e = .returned (.tuple #[]) ∧ DiskAt w' bd D S ∧ Frm (· ∈ S) w w'

/-- A disk with another fuse. -/
theorem disk_fuse {w w' : World} {bd : Nat} {D : MD} {S : List Nat} (hD : DiskAt w bd D S) (f : Frm (fun k => k = bd) w w') (fu : Option Nat) (fused : Bool) (left : Int) (hfu : ∀ n, fu = some n → n ≤ 9223372036854775807) (hc : fuseCells fu fused left)
    (hb : ∀ bm a b, w.heap[bd]? = some (.cells #[.int .i64 D.room, .map (some bm), a, b] 60 (0, 0)) → w'.heap[bd]? = some (.cells #[.int .i64 D.room, .map (some bm), .bool fused, .int .i64 left] 60 (0, 0))) :
    DiskAt w' bd { D with fuse := fu } S ∧ Frm (· ∈ S) w w' := by
  obtain ⟨bm, fused0, left0, rows, h1, h2, h3, h4, h5, rfl, hnd, hok⟩ := hD
  have n1 := (List.nodup_cons.1 hnd).1
  refine ⟨⟨bm, fused, left, rows, hb _ _ _ h1, hc, h3.keep f (fun e => n1 (by simp [e])), ?_, h5, rfl, hnd, ⟨hok.room, hok.used, hok.many, hok.names, hok.lasts, hfu⟩⟩, f.mono (fun k _ e => by simp [e])⟩
  intro r hr
  exact (h4 r hr).keep f (fun k hk e => n1 (by rw [← e]; simp only [List.mem_cons, List.mem_flatMap]; exact .inr ⟨r, hr, hk⟩))

theorem fuse_close {w : World} {bd : Nat} {D : MD} {S : List Nat} (hD : DiskAt w bd D S) (fu : Option Nat) (fused : Bool) (left : Int) (hfu : ∀ n, fu = some n → n ≤ 9223372036854775807) (hc : fuseCells fu fused left) :
    FusePost w bd { D with fuse := fu } S (.returned (.tuple #[])) ((w.setCell ⟨bd, 2, none⟩ (.bool fused)).setCell ⟨bd, 3, none⟩ (.int .i64 left)) := by
  have f1 : Frm (fun k => k = bd) w (w.setCell ⟨bd, 2, none⟩ (.bool fused)) := (Frm.refl (fun k => k = bd) w).setCell (p := ⟨bd, 2, none⟩) (fun _ => rfl) _
  have f2 : Frm (fun k => k = bd) w ((w.setCell ⟨bd, 2, none⟩ (.bool fused)).setCell ⟨bd, 3, none⟩ (.int .i64 left)) := f1.setCell (p := ⟨bd, 3, none⟩) (fun _ => rfl) _
  have h := disk_fuse hD f2 fu fused left hfu hc (fun bm a b h => by
    rw [heap_setCell_eq (heap_setCell_eq h 2 (.bool fused)) 3]; rfl)
  exact ⟨rfl, h.1, h.2⟩

set_option maxHeartbeats 1000000 in
theorem dFuse_spec (w : World) (bd : Nat) (D : MD) (S : List Nat) (hD : DiskAt w bd D S) (n : Int) (hn : n ≤ 9223372036854775807) :
    Calls Try.prog 17 #[.pointer (some ⟨bd, 0, none⟩), .int .i64 n] w (FusePost w bd (MD.setFuse D n) S) := by
  have hD0 := hD
  obtain ⟨bm, fused, left, rows, h1, h2, h3, h4, h5, hS, hnd, hok⟩ := hD
  clear h5 hS hnd
  have c2 := cell_is h1 2 _ rfl
  have c3 := cell_is h1 3 _ rfl
  have f2 := frozen_of h1 2
  have f3 := frozen_of h1 3
  by_cases hneg : n < 0
  · go_enter Try.func17, Try.ntmps17
    go_wp2_with fail
    go_end0
    have hm : MD.setFuse D n = { D with fuse := none } := by unfold MD.setFuse; rw [if_pos hneg]
    rw [hm, show decide (0 ≤ n) = false from decide_eq_false (by omega)]
    exact fuse_close hD0 none false 0 (fun _ h => by cases h) rfl
  · by_cases hz : n ≤ 0
    · obtain rfl : n = 0 := by omega
      go_enter Try.func17, Try.ntmps17
      go_wp2_with fail
      all_goals go_end0
      all_goals exact fuse_close hD0 (some 0) true 0 (fun _ h => by cases h; omega) ⟨rfl, rfl⟩
    · have hp : 0 < n := by omega
      have hm : MD.setFuse D n = { D with fuse := some n.toNat } := by unfold MD.setFuse; rw [if_neg hneg]
      rw [hm]
      go_enter Try.func17, Try.ntmps17
      go_wp2_with fail
      all_goals go_end0
      all_goals exact fuse_close hD0 (some n.toNat) true n (fun _ h => by cases h; omega) ⟨rfl, (Int.toNat_of_nonneg (by omega)).symm⟩
end Go.Proofs.Ytjcjajpndchfdaa
