/- Plain facts for the law WireBack: what a reader answers of what was written, and of what was cut short. -/
import Derived.Test.YtbgnkdbbkkoinaaWireW5
namespace Go.Proofs.Ytbgnkdbbkkoinaa
open Go.RowKit Wire
theorem numOut_at (pre rest : List UInt8) (n : Nat) (h : n < 18446744073709551616) : numOut (pre ++ (enc n ++ rest)) pre.length = (n, pre.length + (enc n).length, 0) := by
  unfold numOut
  rw [List.drop_left, rd_enc n (by omega) rest]
theorem bytesOut_at (pre rest B : List UInt8) (m : Int) (h : (B.length : Int) ≤ m) (h2 : B.length < 18446744073709551616) :
    bytesOut (pre ++ (enc B.length ++ (B ++ rest))) pre.length m = (B, pre.length + (enc B.length).length + B.length, 0) := by
  have hc : cntOut (pre ++ (enc B.length ++ (B ++ rest))) pre.length m = (B.length, pre.length + (enc B.length).length, 0) := by
    unfold cntOut
    rw [if_neg (by omega), numOut_at _ _ _ h2, if_pos rfl, if_neg (by simpa using h)]
  unfold bytesOut
  rw [hc, if_pos rfl, if_neg (by simp; omega)]
  have : (pre ++ (enc B.length ++ (B ++ rest))).drop (pre.length + (enc B.length).length) = B ++ rest := by
    rw [← List.append_assoc, ← List.length_append, List.drop_left]
  simp only [this, List.take_left]
theorem flagOut_at (pre : List UInt8) (F : Bool) : flagOut (pre ++ [if F then 1 else 0]) pre.length = (F, pre.length + 1, 0) := by
  unfold flagOut
  rw [dif_pos (by simp)]
  cases F <;> simp
/-- All that can be answered of bytes. -/
theorem bytesOut_back (l : List UInt8) (m : Int) (hm : 0 ≤ m) :
    ((bytesOut l 0 m).2.2 = 0 ∧ (bytesOut l 0 m).2.1 ≤ l.length ∧ enc (bytesOut l 0 m).1.length ++ (bytesOut l 0 m).1 = l.take (bytesOut l 0 m).2.1 ∧ ((bytesOut l 0 m).1.length : Int) ≤ m ∧ (bytesOut l 0 m).1.length < 18446744073709551616) ∨
    (2 < (bytesOut l 0 m).2.2 ∧ (bytesOut l 0 m).2.1 = 0) := by
  have h0 : numOut l 0 = match rd l 0 0 with | some (v, j) => (v, j, 0) | none => (0, 0, 4) := by
    unfold numOut
    rw [List.drop_zero]
    cases rd l 0 0 with
    | none => rfl
    | some x => simp
  cases hr : rd l 0 0 with
  | none =>
    rw [hr] at h0
    have hc : cntOut l 0 m = (0, 0, 4) := by
      unfold cntOut
      rw [if_neg (by omega), h0]; rfl
    refine .inr ?_
    unfold bytesOut
    rw [hc, if_neg (by decide)]
    exact ⟨by decide, rfl⟩
  | some x =>
    obtain ⟨v, j⟩ := x
    rw [hr] at h0
    simp only at h0
    obtain ⟨hj, hjl, htake, hv⟩ := rd_back _ _ _ hr
    by_cases hmv : m < v
    · have hc : cntOut l 0 m = (0, j, 3) := by
        unfold cntOut
        rw [if_neg (by omega), h0, if_pos rfl, if_pos hmv]
      refine .inr ?_
      unfold bytesOut
      rw [hc, if_neg (by simp)]
      exact ⟨by simp, rfl⟩
    · have hc : cntOut l 0 m = (v, j, 0) := by
        unfold cntOut
        rw [if_neg (by omega), h0, if_pos rfl, if_neg hmv]
      unfold bytesOut
      rw [hc, if_pos rfl]
      by_cases hl : l.length - j < v
      · refine .inr ?_
        rw [if_pos hl]
        exact ⟨by decide, rfl⟩
      · refine .inl ?_
        rw [if_neg hl]
        have hlen : ((l.drop j).take v).length = v := by simp; omega
        refine ⟨rfl, by simp only; omega, ?_, by simp only [hlen]; omega, by simp only [hlen]; omega⟩
        simp only [hlen]
        rw [← htake, List.take_add]
/-- A form that is cut short is none. -/
theorem bytesOut_short (y : List UInt8) (m : Int) (hm : (y.length : Int) ≤ m) (hy : y.length < 18446744073709551616) :
    (bytesOut ((enc y.length ++ y).take ((enc y.length ++ y).length - 1)) 0 m).2.2 = 4 := by
  cases hn : y.length with
  | zero =>
    obtain rfl : y = [] := List.eq_nil_of_length_eq_zero hn
    have e : enc 0 = [0] := by decide
    rw [e]
    have h0 : numOut (([0] ++ ([] : List UInt8)).take (([0] ++ ([] : List UInt8)).length - 1)) 0 = (0, 0, 4) := by decide
    have hc : cntOut (([0] ++ ([] : List UInt8)).take (([0] ++ ([] : List UInt8)).length - 1)) 0 m = (0, 0, 4) := by
      unfold cntOut
      rw [if_neg (by simp at hm; omega), h0]; rfl
    unfold bytesOut
    rw [hc, if_neg (by decide)]
  | succ k =>
    rw [hn] at hm hy
    have hs : (enc (k + 1) ++ y).take ((enc (k + 1) ++ y).length - 1) = [] ++ (enc (k + 1) ++ y.take k) := by
      rw [List.nil_append, List.length_append, hn, show (enc (k + 1)).length + (k + 1) - 1 = (enc (k + 1)).length + k from by omega, List.take_length_add_append]
    have h0 := numOut_at [] (y.take k) (k + 1) hy
    have hc : cntOut ([] ++ (enc (k + 1) ++ y.take k)) 0 m = (k + 1, (enc (k + 1)).length, 0) := by
      unfold cntOut
      rw [if_neg (by omega)]
      simp only [List.length_nil, Nat.zero_add] at h0
      rw [h0, if_pos rfl, if_neg (by simpa using hm)]
    rw [hs]
    unfold bytesOut
    rw [hc, if_pos rfl, if_pos (by simp; omega)]
end Go.Proofs.Ytbgnkdbbkkoinaa
