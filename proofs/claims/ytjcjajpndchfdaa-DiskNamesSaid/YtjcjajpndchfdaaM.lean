/- The disk as plain data: files as a list of names and bytes; what each call answers and leaves. Then: how a disk lies in memory. -/
import Derived.Test.YtjcjajpndchfdaaC
namespace Go.Proofs.Ytjcjajpndchfdaa
open Go.RowKit
open Go.Maps (Keyed)

/-- a file: its bytes, and how many of them last -/
structure MF where
  data : List UInt8
  lasts : Nat
/-- a disk -/
structure MD where
  room : Nat
  files : List (ByteArray × MF)
  fuse : Option Nat

namespace MD
def find : List (ByteArray × MF) → ByteArray → Option MF
  | [], _ => none
  | (t, f) :: r, s => if t = s then some f else find r s
def put : List (ByteArray × MF) → ByteArray → MF → List (ByteArray × MF)
  | [], s, f => [(s, f)]
  | (t, g) :: r, s, f => if t = s then (s, f) :: r else (t, g) :: put r s f
def del : List (ByteArray × MF) → ByteArray → List (ByteArray × MF)
  | [], _ => []
  | (t, g) :: r, s => if t = s then r else (t, g) :: del r s
def used (l : List (ByteArray × MF)) : Nat := (l.map fun p => p.2.data.length).sum
def badName (s : ByteArray) : Bool := s.size < 1 || 64 < s.size
/-- the gate: a fuse that is burnt, names that are none; else what is done -/
def gate (D : MD) (names : List ByteArray) (r : Int × MD) : Int × MD :=
  if D.fuse = some 0 then (9, D) else if names.any badName then (1, D) else
  if r.1 = 0 then (0, { r.2 with fuse := r.2.fuse.map (· - 1) }) else (r.1, D)
def writeIn (D : MD) (s : ByteArray) (p : List UInt8) : Int × MD :=
  if D.room < used D.files + p.length ∨ (find D.files s = none ∧ 4096 ≤ D.files.length) then (6, D) else
  let f := (find D.files s).getD ⟨[], 0⟩
  (0, { D with files := put D.files s ⟨f.data ++ p, f.lasts⟩ })
def syncIn (D : MD) (s : ByteArray) : Int × MD :=
  match find D.files s with
  | none => (7, D)
  | some f => (0, { D with files := put D.files s ⟨f.data, f.data.length⟩ })
def cutIn (D : MD) (s : ByteArray) (n : Int) : Int × MD :=
  match find D.files s with
  | none => (7, D)
  | some f => if n < 0 ∨ (f.data.length : Int) < n then (1, D) else (0, { D with files := put D.files s ⟨f.data.take n.toNat, min f.lasts n.toNat⟩ })
def renameIn (D : MD) (s t : ByteArray) : Int × MD :=
  match find D.files s with
  | none => (7, D)
  | some f => (0, { D with files := put (del D.files s) t f })
def removeIn (D : MD) (s : ByteArray) : Int × MD :=
  match find D.files s with
  | none => (7, D)
  | some _ => (0, { D with files := del D.files s })
def write (D : MD) (s : ByteArray) (p : List UInt8) : Int × MD := gate D [s] (writeIn D s p)
def sync (D : MD) (s : ByteArray) : Int × MD := gate D [s] (syncIn D s)
def cut (D : MD) (s : ByteArray) (n : Int) : Int × MD := gate D [s] (cutIn D s n)
def rename (D : MD) (s t : ByteArray) : Int × MD := gate D [s, t] (renameIn D s t)
def remove (D : MD) (s : ByteArray) : Int × MD := gate D [s] (removeIn D s)
def setFuse (D : MD) (n : Int) : MD := { D with fuse := if n < 0 then none else some n.toNat }
def crashF (keep : Int) (tear : UInt8) (f : MF) : MF :=
  let stays := f.lasts + (max 0 keep).toNat % (f.data.length - f.lasts + 1)
  let sector := (stays - 1) / 32 * 32
  ⟨(f.data.take stays).mapIdx fun i x => if max f.lasts sector ≤ i then x ^^^ tear else x, stays⟩
def crash (D : MD) (keep : Int) (tear : UInt8) : MD := { D with files := D.files.map fun p => (p.1, crashF keep tear p.2), fuse := none }

/-- what every disk keeps to -/
structure Ok (D : MD) : Prop where
  room : D.room ≤ 1073741824
  used : used D.files ≤ D.room
  many : D.files.length ≤ 4096
  names : ∀ p ∈ D.files, p.1.size ≤ 64
  lasts : ∀ p ∈ D.files, p.2.lasts ≤ p.2.data.length
  fuse : ∀ n, D.fuse = some n → n ≤ 9223372036854775807
end MD

/-- a file in memory: its name, its block, its slice -/
structure Rw where
  name : ByteArray
  bf : Nat
  dv : Value
  f : MF
def Rw.blocks (r : Rw) : List Nat := r.bf :: r.dv.ownBlock.toList
def Rw.kv (r : Rw) : Value × Value := (.string r.name, .pointer (some ⟨r.bf, 0, none⟩))
def FileOk (w : World) (r : Rw) : Prop :=
  w.heap[r.bf]? = some (.cells #[r.dv, .int .i64 r.f.lasts] 67 (0, 0)) ∧ OwnB w r.dv r.f.data

def fuseCells (fu : Option Nat) (fused : Bool) (left : Int) : Prop :=
  match fu with
  | none => fused = false
  | some n => fused = true ∧ left = n

/-- Block bd is the disk D; S: all its blocks. -/
def DiskAt (w : World) (bd : Nat) (D : MD) (S : List Nat) : Prop :=
  ∃ (bm : Nat) (fused : Bool) (left : Int) (rows : List Rw), w.heap[bd]? = some (.cells #[.int .i64 D.room, .map (some bm), .bool fused, .int .i64 left] 60 (0, 0)) ∧ fuseCells D.fuse fused left ∧
    MapB Try.prog 9 w bm (rows.map Rw.kv) ∧ (∀ r ∈ rows, FileOk w r) ∧ D.files = rows.map (fun r => (r.name, r.f)) ∧ S = bd :: bm :: rows.flatMap Rw.blocks ∧ S.Nodup ∧ D.Ok

/-- What one of the five leaves behind: r: what it answers, and the disk. -/
def DiskPost (w : World) (bd : Nat) (S : List Nat) (r : Int × MD) (e : Ending) (w' : World) : Prop :=
  ∃ S', e = .returned (.int .i64 r.1) ∧ DiskAt w' bd r.2 S' ∧ Frm (· ∈ S) w w' ∧ ∀ k ∈ S', k ∈ S ∨ w.heap.size ≤ k
theorem DiskPost.mk {w : World} {bd : Nat} {S : List Nat} {r : Int × MD} {e : Ending} {w' : World} (c : Int) (D : MD) (hr : r = (c, D)) {S' : List Nat} (he : e = .returned (.int .i64 c)) (hd : DiskAt w' bd D S') (hf : Frm (· ∈ S) w w') (hs : ∀ k ∈ S', k ∈ S ∨ w.heap.size ≤ k) : DiskPost w bd S r e w' := by
  subst hr; exact ⟨S', he, hd, hf, hs⟩
theorem DiskPost.same {w : World} {bd : Nat} {S : List Nat} {r : Int × MD} {e : Ending} {w' : World} {D : MD} (c : Int) (_hD : DiskAt w bd D S) (hr : r = (c, D)) (he : e = .returned (.int .i64 c)) (g : Grew w w') (hk : DiskAt w' bd D S) : DiskPost w bd S r e w' :=
  DiskPost.mk c D hr he hk (Frm.of_grew g) (fun _ hk => .inl hk)

theorem strKey : Keyed Try.prog 9 := Maps.string_keyed Try.underlying9
theorem keyS {s : ByteArray} (h : s.size ≤ 64) : keyOf Try.prog 9 (.string s) = some (.string s.data.toList) := _root_.Go.WideMaps.keyOf_string_mk Try.underlying9 (by unfold maxLen; omega)

theorem zeroFile (w : World) : (zeroValue 65).run Try.prog w = .ok (.pointer none) w := by kernel_rfl
end Go.Proofs.Ytjcjajpndchfdaa
