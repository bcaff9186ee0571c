
/- Walks: readers; what they read of numbers. -/
import Derived.Test.YtpbjhfajekfjeaaWireW2
import Derived.Maps.AppendAt
import Derived.RegionTactic
import Derived.BigRegion
import Derived.Deep.QuietTactic
import Derived.BigQuiet
import Derived.Laws.Cover3
import Derived.WalkMore
import Derived.Lib.SlBytesConst
import Derived.Deep.DeepCutAuto
import Derived.Deep.CutBlock
namespace Go.Proofs.Ytpbjhfajekfjeaa
open Go.RowKit Wire
/-- Block g is a reader, of these bytes, at that place. -/
structure RdAt (T : TypeId) (w : World) (g : Nat) (a : Option Addr) (cap : Nat) (l : List UInt8) (p : Nat) : Prop where
  row : w.heap[g]? = some (.cells #[.slice a l.length cap, .int .i64 p] T (0, 0))
  bytes : BytesAt w a l
  here : p ≤ l.length
  max : l.length ≤ 35184372088832
  fits : l.length ≤ cap
section
variable {T T' : TypeId} {w w' : World} {g d : Nat} {a a' : Option Addr} {cap cap' : Nat} {l l' : List UInt8} {p p' : Nat}
theorem RdAt.lt (h : RdAt T w g a cap l p) : g < w.heap.size := (Array.getElem?_eq_some_iff.1 h.row).1
theorem RdAt.c0 (h : RdAt T w g a cap l p) : w.cell? ⟨g, 0, none⟩ = some (.slice a l.length cap) := cell_of_row _ _ _ _ _ _ h.row
theorem RdAt.c1 (h : RdAt T w g a cap l p) : w.cell? ⟨g, 1, none⟩ = some (.int .i64 p) := cell_of_row _ _ _ _ _ _ h.row
theorem RdAt.f0 (h : RdAt T w g a cap l p) : w.frozen? ⟨g, 0, none⟩ = false := frozen_of_row _ _ _ _ _ h.row
theorem RdAt.f1 (h : RdAt T w g a cap l p) : w.frozen? ⟨g, 1, none⟩ = false := frozen_of_row _ _ _ _ _ h.row
/-- No reader's block holds bytes. -/
theorem RdAt.not_bytes (h : RdAt T w g a cap l p) {b off : Nat} {c : Int} (hc : w.cell? ⟨b, off, none⟩ = some (.int .u8 c)) : b ≠ g := by
  rintro rfl
  rw [cell_of_row _ _ _ _ _ _ h.row] at hc
  match off with
  | 0 => simp at hc
  | 1 => simp at hc
  | n + 2 => simp at hc
theorem BytesAt.grown {row : Option Nat} (h : BytesAt w a l) (hg : w.grownBy w' row) (hrow : ∀ b off, ∀ c : Int, w.cell? ⟨b, off, none⟩ = some (.int .u8 c) → some b ≠ row) : BytesAt w' a l := by
  intro i hi
  obtain ⟨b, off, rfl, hc⟩ := h i hi
  exact ⟨b, off, rfl, hg.cell hc (hrow _ _ _ hc)⟩
theorem BytesAt.reader (h : BytesAt w a l) (hr : RdAt T w g a' cap l' p) (hg : w.grownBy w' (some g)) : BytesAt w' a l :=
  h.grown hg fun _ _ _ hc e => hr.not_bytes hc (by simpa using e)
theorem RdAt.put (h : RdAt T w g a cap l p) (q : Nat) (hq : q ≤ l.length) : RdAt T (w.setCell ⟨g, 1, none⟩ (.int .i64 q)) g a cap l q := by
  have hg : w.grownBy (w.setCell ⟨g, 1, none⟩ (.int .i64 q)) (some g) := ⟨rfl, rfl, rfl, by simp [World.setCell], fun k hk hne => Below.heap_setCell _ _ _ _ (fun e => hne (by rw [e]))⟩
  refine ⟨?_, h.bytes.reader h hg, hq, h.max, h.fits⟩
  rw [setCell_eq_setRow w g 1 _ _ _ _ h.row]
  exact setRow_heap w g _ _ _ _ h.row
theorem RdAt.put_grown (w : World) (g : Nat) (v : Value) : w.grownBy (w.setCell ⟨g, 1, none⟩ v) (some g) := ⟨rfl, rfl, rfl, by simp [World.setCell], fun k hk hne => Below.heap_setCell _ _ _ _ (fun e => hne (by rw [e]))⟩
theorem RdAt.other (h : RdAt T w d a cap l p) (hr : RdAt T' w g a' cap' l' p') (hne : d ≠ g) (hg : w.grownBy w' (some g)) : RdAt T w' d a cap l p :=
  ⟨(hg.block d h.lt (by simpa using hne)).trans h.row, h.bytes.reader hr hg, h.here, h.max, h.fits⟩
theorem RdAt.below (h : RdAt T w d a cap l p) (hb : Below w.heap.size w w') : RdAt T w' d a cap l p :=
  ⟨(hb.block d h.lt).trans h.row, h.bytes.below hb rfl, h.here, h.max, h.fits⟩
theorem RdAt.alloc (h : RdAt T w d a cap l p) (o : Obj) : RdAt T (w.alloc o) d a cap l p := h.below (below_new w o)
theorem grown_below {B : Nat} (hb : Below w.heap.size w w') : w.grownBy w' (some B) := ⟨hb.os, hb.tape, hb.output, hb.size, fun k hk _ => hb.block k hk⟩
theorem only_below {B : Nat} (hg : w.grownBy w' (some g)) (hB : B ≤ g) (hl : g < w.heap.size) : Below B w w' :=
  ⟨hg.os, hg.tape, hg.output, hg.size, fun k hk => hg.block k (by omega) (fun e => by cases e; omega)⟩
end
/-- What a reader's call leaves: the reader at a place, all else as it was. -/
structure Reads (T : TypeId) (w : World) (g : Nat) (a : Option Addr) (cap : Nat) (l : List UInt8) (q : Nat) (w' : World) : Prop where
  rd : RdAt T w' g a cap l q
  grown : w.grownBy w' (some g)
theorem Reads.stay {T : TypeId} {w : World} {g : Nat} {a : Option Addr} {cap : Nat} {l : List UInt8} {p : Nat} (h : RdAt T w g a cap l p) : Reads T w g a cap l p w := ⟨h, World.grownBy.refl _ _⟩
theorem Reads.put {T : TypeId} {w : World} {g : Nat} {a : Option Addr} {cap : Nat} {l : List UInt8} {p : Nat} (h : RdAt T w g a cap l p) (q : Nat) (hq : q ≤ l.length) : Reads T w g a cap l q (w.setCell ⟨g, 1, none⟩ (.int .i64 q)) := ⟨h.put q hq, RdAt.put_grown _ _ _⟩
theorem Reads.trans {T : TypeId} {w w' w'' : World} {g : Nat} {a : Option Addr} {cap : Nat} {l : List UInt8} {q q' : Nat} (h : Reads T w g a cap l q w') (k : Reads T w' g a cap l q' w'') : Reads T w g a cap l q' w'' := ⟨k.rd, h.grown.trans k.grown⟩

section
variable {w : World} {g : Nat} {ad : Addr} {cap : Nat} {l : List UInt8} {p : Nat}
/-- What Number answers. -/
def numOut (l : List UInt8) (p : Nat) : Nat × Nat × Nat := match rd (l.drop p) 0 0 with | some (v, j) => (v, p + j, 0) | none => (0, p, 4)
theorem rd_nil' {l : List UInt8} {p : Nat} (h : l.length ≤ p) (k acc : Nat) : rd (l.drop p) k acc = none := by
  rw [List.drop_eq_nil_of_le h]; rfl
theorem rd_at {l : List UInt8} {p : Nat} (h : p < l.length) (k acc : Nat) : rd (l.drop p) k acc =
    if (k = 9 ∧ 1 < (l[p]).toNat) ∨ (0 < k ∧ (l[p]).toNat = 0) ∨ 9 < k then none
    else if (l[p]).toNat < 128 then some (acc + (l[p]).toNat % 128 * 2 ^ (7 * k), k + 1)
    else rd (l.drop (p + 1)) (k + 1) (acc + (l[p]).toNat % 128 * 2 ^ (7 * k)) := by
  rw [List.drop_eq_getElem_cons h, rd_cons]
theorem BytesAt.at {w : World} {l : List UInt8} {ad : Addr} {i : Nat} (h : BytesAt w (some ad) l) (hi : i < l.length) : w.cell? (ad.add i) = some (.int .u8 (l[i].toNat : Int)) := by
  obtain ⟨b, off, e, hc⟩ := h i hi
  obtain rfl := Option.some.inj e
  rw [Addr.add_lit]
  exact hc
theorem digit_in (acc c s : Nat) (hacc : acc < 2 ^ s) (hc : c < 256) (hfit : s ≤ 56 ∨ s = 63 ∧ c ≤ 1) :
    (∀ P : Int, P = 2 ^ s → bits .or .u64 (acc : Int) (IntKind.u64.wrap (IntKind.u64.wrap (bits .and .u8 (c : Int) 127) * P)) = ((acc + c % 128 * 2 ^ s : Nat) : Int)) ∧ acc + c % 128 * 2 ^ s < 18446744073709551616 := by
  have e1 : bits .and .u8 (c : Int) 127 = ((c % 128 : Nat) : Int) := by
    rw [show (127 : Int) = ((127 : Nat) : Int) from rfl, u8_and_nat _ _ hc (by decide), show (127 : Nat) = 2 ^ 7 - 1 from rfl, Nat.and_two_pow_sub_one_eq_mod]
  have hb : acc + c % 128 * 2 ^ s < 2 ^ 64 := by
    rcases hfit with h | ⟨h, h1⟩
    · have h2 : (c % 128 + 1) * 2 ^ s ≤ 128 * 2 ^ s := Nat.mul_le_mul_right _ (by omega)
      have h3 : (128 : Nat) * 2 ^ s = 2 ^ (s + 7) := by rw [Nat.pow_add, Nat.mul_comm]
      have h4 : 2 ^ (s + 7) ≤ 2 ^ 64 := Nat.pow_le_pow_right (by decide) (by omega)
      rw [Nat.add_mul] at h2
      omega
    · subst h
      have h2 : c % 128 ≤ 1 := by omega
      have : c % 128 * 2 ^ 63 ≤ 1 * 2 ^ 63 := Nat.mul_le_mul_right _ h2
      omega
  have hb2 : c % 128 * 2 ^ s < 18446744073709551616 := by omega
  refine ⟨fun P hP => ?_, by omega⟩
  subst hP
  have e2 : IntKind.u64.wrap ((c % 128 : Nat) : Int) = ((c % 128 : Nat) : Int) := by rw [u64_wrap]; omega
  have e3 : IntKind.u64.wrap ((c % 128 * 2 ^ s : Nat) : Int) = ((c % 128 * 2 ^ s : Nat) : Int) := by rw [u64_wrap]; exact Int.emod_eq_of_lt (by omega) (by omega)
  rw [e1, e2, show ((c % 128 : Nat) : Int) * 2 ^ s = ((c % 128 * 2 ^ s : Nat) : Int) by simp, e3]
  rw [u64_or_nat _ _ (by omega) hb2]
  have h5 := Nat.shiftLeft_add_eq_or_of_lt hacc (c % 128)
  rw [Nat.shiftLeft_eq] at h5
  rw [Nat.or_comm, ← h5, Nat.add_comm]
theorem pow_min {s : Nat} (h : s ≤ 63) : (2 : Int) ^ min s 64 = 2 ^ s := by rw [Nat.min_eq_left (by omega)]
theorem pow_63 {s : Nat} (h : (s : Int) = 63) : (9223372036854775808 : Int) = 2 ^ s := by
  obtain rfl : s = 63 := by omega
  rfl
theorem pow_0 {s : Nat} (h : s = 0) : (1 : Int) = 2 ^ s := by subst h; rfl
theorem Reads.stayd {T : TypeId} (h : RdAt T w g (some ad) cap l p) (q : Nat) : Reads T w g (some ad) cap l p (w.drewN q) := ⟨⟨h.row, h.bytes, h.here, h.max, h.fits⟩, ⟨rfl, rfl, rfl, Nat.le_refl _, fun _ _ _ => rfl⟩⟩
theorem Reads.putd {T : TypeId} (h : RdAt T w g (some ad) cap l p) (q n : Nat) (hn : n ≤ l.length) (x : Int) (hx : x = n) : Reads T w g (some ad) cap l n ((w.drewN q).setCell ⟨g, 1, none⟩ (.int .i64 x)) := by
  subst hx
  exact (Reads.stayd h q).trans (Reads.put (Reads.stayd h q).rd n hn)
theorem u64_tup {a b x y : Int} (h : a = b) (h' : x = y) : Ending.returned (.tuple #[.int .u64 a, .int .i64 x]) = .returned (.tuple #[.int .u64 b, .int .i64 y]) := by rw [h, h']
end
end Go.Proofs.Ytpbjhfajekfjeaa
