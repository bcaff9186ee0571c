/- Walks: what a reader reads, but lists. -/
import Derived.Test.YtbgnkdbbkkoinaaWireW3
import Derived.Laws.DeepNot64
import Derived.Deep.RegionHeld3
import Derived.Deep.RegionLaw
namespace Go.Proofs.Ytbgnkdbbkkoinaa
open Go.RowKit Wire
section
variable {w : World} {g : Nat} {ad : Addr} {cap : Nat} {l : List UInt8} {p : Nat}
theorem numOut_lt (l : List UInt8) (p : Nat) : (numOut l p).1 < 18446744073709551616 := by
  unfold numOut
  cases h : rd (l.drop p) 0 0 with
  | none => simp
  | some x => obtain ⟨v, j⟩ := x; have := rd_back _ _ _ h; simp only; omega
theorem numOut_ge (l : List UInt8) (p : Nat) : p ≤ (numOut l p).2.1 := by
  unfold numOut
  cases h : rd (l.drop p) 0 0 with
  | none => simp
  | some x => simp
theorem numOut_err (l : List UInt8) (p : Nat) : (numOut l p).2.2 = 0 ∨ numOut l p = (0, p, 4) := by
  unfold numOut
  cases h : rd (l.drop p) 0 0 with
  | none => simp
  | some x => simp
theorem rd_End (h : wRd w g (some ad) cap l p) : Calls Try.prog 25 #[.pointer (some ⟨g, 0, none⟩)] w fun e w' => e = .returned (.int .i64 (if p < l.length then 4 else 0)) ∧ ∃ q, w' = w.drewN q := by
  have HR := Lib.hid h; clear h
  go_enter Try.func25, Try.ntmps25
  go_wp2_with fail
  refine (rd_there HR.out).mono ?_
  rintro e w1 ⟨rfl, rfl⟩
  go_wp2_with fail
  refine (rd_Left HR.out).mono ?_
  rintro e w1 ⟨rfl, q, rfl⟩
  by_cases hlt : p < l.length
  · have h0 : 0 < l.length - p := by omega
    go_wp2_with fail
    go_ret
    exact ⟨rfl, _, rfl⟩
  · have h0 : l.length - p = 0 := by omega
    go_wp2_with fail
    go_ret
    exact ⟨rfl, _, rfl⟩
theorem unfold_bits (u : Nat) (hu : u < 18446744073709551616) : bits .xor .i64 ((u : Int) / 2) (wrap64 (-wrap64 (bits .and .u64 (u : Int) 1))) = unfoldN u := by
  have e1 : bits .and .u64 (u : Int) 1 = ((u % 2 : Nat) : Int) := by
    rw [show (1 : Int) = ((1 : Nat) : Int) from rfl, u64_and_nat _ _ hu (by decide), show (1 : Nat) = 2 ^ 1 - 1 from rfl, Nat.and_two_pow_sub_one_eq_mod]
  have e2 : (u : Int) / 2 = ((u / 2 : Nat) : Int) := by omega
  rw [e1, e2]
  unfold unfoldN
  by_cases h : u % 2 = 1
  · rw [if_pos h, h]
    have e3 : wrap64 (-wrap64 ((1 : Nat) : Int)) = -1 := by simp [wrap64]
    rw [e3]
    have e4 : bits .xor .i64 ((u / 2 : Nat) : Int) (-1) = bits .xor .i64 (-1) ((u / 2 : Nat) : Int) := by
      show IntKind.i64.wrap ((BitVec.ofInt 64 ((u / 2 : Nat) : Int) ^^^ BitVec.ofInt 64 (-1)).toNat : Int) = IntKind.i64.wrap ((BitVec.ofInt 64 (-1) ^^^ BitVec.ofInt 64 ((u / 2 : Nat) : Int)).toNat : Int)
      rw [BitVec.xor_comm]
    rw [e4, i64_not _ (by omega)]
    omega
  · rw [if_neg h, show u % 2 = 0 from by omega]
    have e3 : wrap64 (-wrap64 ((0 : Nat) : Int)) = 0 := by simp [wrap64]
    rw [e3]
    show IntKind.i64.wrap ((BitVec.ofInt 64 ((u / 2 : Nat) : Int) ^^^ BitVec.ofInt 64 0).toNat : Int) = _
    have h1 : BitVec.ofInt 64 0 = 0#64 := by decide
    rw [h1, BitVec.xor_zero, ofInt_u64 _ (by omega)]
    simp [IntKind.wrap, IntKind.bits, IntKind.signed]
    omega
theorem i64_tup {a b x y : Int} (h : a = b) (h' : x = y) : Ending.returned (.tuple #[.int .i64 a, .int .i64 x]) = .returned (.tuple #[.int .i64 b, .int .i64 y]) := by rw [h, h']
theorem rd_Signed (h : wRd w g (some ad) cap l p) : Calls Try.prog 21 #[.pointer (some ⟨g, 0, none⟩)] w fun e w' =>
    e = .returned (.tuple #[.int .i64 (unfoldN (numOut l p).1), .int .i64 ((numOut l p).2.2 : Int)]) ∧ Reads 73 w g (some ad) cap l (numOut l p).2.1 w' := by
  have HR := Lib.hid h; clear h
  have hlt := numOut_lt l p
  go_enter Try.func21, Try.ntmps21
  go_wp2_with fail
  refine (rd_Number HR.out).mono ?_
  rintro e w1 ⟨rfl, hr⟩
  have HR1 := Lib.hid hr; clear hr
  obtain ⟨o, ho⟩ : ∃ o, o = numOut l p := ⟨_, rfl⟩
  rw [← ho] at HR1 hlt ⊢
  have HO := Lib.hid ho; clear ho
  go_wp2_with fail
  go_ret2
  rw [← HO.out]
  exact ⟨i64_tup (unfold_bits _ hlt) rfl, HR1.out⟩
/-- What Flag answers. -/
def flagOut (l : List UInt8) (p : Nat) : Bool × Nat × Nat := if h : p < l.length then (if 1 < (l[p]).toNat then (false, p, 4) else (decide ((l[p]).toNat = 1), p + 1, 0)) else (false, p, 4)
theorem rd_Flag (h : wRd w g (some ad) cap l p) : Calls Try.prog 23 #[.pointer (some ⟨g, 0, none⟩)] w fun e w' =>
    e = .returned (.tuple #[.bool (flagOut l p).1, .int .i64 ((flagOut l p).2.2 : Int)]) ∧ Reads 73 w g (some ad) cap l (flagOut l p).2.1 w' := by
  have h0 := h.c0
  have h1 := h.c1
  have hf1 := h.f1
  have hle := h.here
  have hmx := h.max
  have HR := Lib.hid h; clear h
  have hp : ((p : Int) < 0) = False := by simp
  by_cases hlt : p < l.length
  · have hc := HR.out.bytes.at hlt
    have HF : Hid (flagOut l p = if 1 < (l[p]).toNat then (false, p, 4) else (decide ((l[p]).toNat = 1), p + 1, 0)) := Lib.hid (by unfold flagOut; rw [dif_pos hlt])
    generalize hcv : (l[p]).toNat = c at hc HF
    have hc256 : c < 256 := by rw [← hcv]; exact UInt8.toNat_lt _
    have HCV := Lib.hid hcv
    clear hcv
    have hne : ((l.length - p : Nat) = 0) = False := by simp; omega
    have hd0 : (((l.length - p : Nat) : Int) == 0) = false := by simp; omega
    by_cases h1c : 1 < c
    · have HF' : Hid (flagOut l p = (false, p, 4)) := Lib.hid (by rw [HF.out, if_pos h1c])
      go_enter Try.func23, Try.ntmps23
      go_wp2_with fail
      refine (rd_there HR.out).mono ?_
      rintro e w1 ⟨rfl, rfl⟩
      go_wp2_with fail
      go_quiet (first | (go_at_call 26; exact Calls.quiet_of (rd_Left (Reads.stayd HR.out _).rd)))
      go_wp2_with fail
      go_ret2
      rw [HF'.out]
      exact ⟨rfl, Reads.stayd HR.out _⟩
    · have HF' : Hid (flagOut l p = (decide (c = 1), p + 1, 0)) := Lib.hid (by rw [HF.out, if_neg h1c])
      go_enter Try.func23, Try.ntmps23
      go_wp2_with fail
      refine (rd_there HR.out).mono ?_
      rintro e w1 ⟨rfl, rfl⟩
      go_wp2_with fail
      go_quiet (first | (go_at_call 26; exact Calls.quiet_of (rd_Left (Reads.stayd HR.out _).rd)))
      go_wp2_with fail
      have R := Reads.putd HR.out nq (p + 1) (by omega) ((p : Int) + 1) (by simp)
      have k0 := R.rd.c0
      have k1 := R.rd.c1
      rw [show ((p + 1 : Nat) : Int) = (p : Int) + 1 from by simp] at k1
      have kc := R.rd.bytes.at hlt
      rw [HCV.out] at kc
      have HR2 := Lib.hid R; clear R
      generalize (w.drewN nq).setCell ⟨g, 1, none⟩ (.int .i64 ((p : Int) + 1)) = W at *
      go_quiet (fail)
      go_wp2_with fail
      go_ret2
      rw [HF'.out]
      refine ⟨?_, HR2.out.trans (Reads.stayd HR2.out.rd _)⟩
      have hdc : (((c : Int) == 1) : Bool) = decide (c = 1) := by
        by_cases hc1 : c = 1
        · simp [hc1]
        · simp [hc1]; omega
      simp [hdc]
  · have HF' : Hid (flagOut l p = (false, p, 4)) := Lib.hid (by unfold flagOut; rw [dif_neg hlt])
    have hz : l.length - p = 0 := by omega
    have hd0 : (((l.length - p : Nat) : Int) == 0) = true := by simp; omega
    go_enter Try.func23, Try.ntmps23
    go_wp2_with fail
    refine (rd_there HR.out).mono ?_
    rintro e w1 ⟨rfl, rfl⟩
    go_wp2_with fail
    go_quiet (first | (go_at_call 26; exact Calls.quiet_of (rd_Left (Reads.stayd HR.out _).rd)))
    go_wp2_with fail
    go_ret2
    rw [HF'.out]
    exact ⟨rfl, Reads.stayd HR.out _⟩
/-- What count answers. -/
def cntOut (l : List UInt8) (p : Nat) (m : Int) : Nat × Nat × Nat :=
  if m < 0 then (0, p, 2) else if (numOut l p).2.2 = 0 then (if m < (numOut l p).1 then (0, (numOut l p).2.1, 3) else numOut l p) else (0, p, (numOut l p).2.2)
theorem i64_wrap {a : Int} (h1 : -9223372036854775808 ≤ a) (h2 : a ≤ 9223372036854775807) : IntKind.i64.wrap a = a := by
  simp [IntKind.wrap, IntKind.bits, IntKind.signed]; omega
theorem rd_count (m : Int) (hm : m ≤ 9223372036854775807) (h : wRd w g (some ad) cap l p) : Calls Try.prog 39 #[.pointer (some ⟨g, 0, none⟩), .int .i64 m] w fun e w' =>
    e = .returned (.tuple #[.int .i64 ((cntOut l p m).1 : Int), .int .i64 ((cntOut l p m).2.2 : Int)]) ∧ Reads 73 w g (some ad) cap l (cntOut l p m).2.1 w' := by
  have HR := Lib.hid h; clear h
  by_cases hneg : m < 0
  · have HC : Hid (cntOut l p m = (0, p, 2)) := Lib.hid (by unfold cntOut; rw [if_pos hneg])
    go_enter Try.func39, Try.ntmps39
    go_wp2_with fail
    go_ret2
    rw [HC.out]
    exact ⟨rfl, Reads.stay HR.out⟩
  · obtain ⟨k, rfl⟩ : ∃ k : Nat, m = k := ⟨m.toNat, by omega⟩
    have HC : Hid (cntOut l p k = if (numOut l p).2.2 = 0 then (if (k : Int) < (numOut l p).1 then (0, (numOut l p).2.1, 3) else numOut l p) else (0, p, (numOut l p).2.2)) := Lib.hid (by unfold cntOut; rw [if_neg hneg])
    obtain ⟨o, ho⟩ : ∃ o, o = cntOut l p k := ⟨_, rfl⟩
    rw [← ho] at HC ⊢
    clear ho
    have HE := Lib.hid (numOut_err l p)
    have hlt := numOut_lt l p
    go_enter Try.func39, Try.ntmps39
    go_wp2_with fail
    refine (rd_Number HR.out).mono ?_
    rintro e w1 ⟨rfl, hr⟩
    have HR1 := Lib.hid hr; clear hr
    generalize numOut l p = x at *
    by_cases he : x.2.2 = 0
    · by_cases hgt : k < x.1
      · have HC' : Hid (o = (0, x.2.1, 3)) := Lib.hid (by rw [HC.out, if_pos he, if_pos (by omega)])
        go_wp2_with fail
        go_ret2
        rw [HC'.out]
        exact ⟨rfl, HR1.out⟩
      · have HC' : Hid (o = x) := Lib.hid (by rw [HC.out, if_pos he, if_neg (by omega)])
        have he' := Lib.hid he
        go_wp2_with fail
        go_ret2
        rw [HC'.out]
        exact ⟨i64_tup rfl (by rw [he'.out]; rfl), HR1.out⟩
    · have HX : Hid (x = (0, p, 4)) := Lib.hid (by have := HE.out; simpa [he] using this)
      have HC' : Hid (o = (0, p, 4)) := Lib.hid (by rw [HC.out, if_neg he, HX.out])
      rw [HX.out] at HR1 ⊢
      clear HX HE HC he hlt
      go_wp2_with fail
      go_ret2
      rw [HC'.out]
      exact ⟨rfl, HR1.out⟩
theorem cntOut_le (l : List UInt8) (p : Nat) (m : Int) : ((cntOut l p m).1 : Int) ≤ m ∨ (cntOut l p m).1 = 0 := by
  unfold cntOut
  split
  · exact .inr rfl
  · split
    · split
      · exact .inr rfl
      · exact .inl (by omega)
    · exact .inr rfl
/-- What Bytes answers. -/
def bytesOut (l : List UInt8) (p : Nat) (m : Int) : List UInt8 × Nat × Nat :=
  if (cntOut l p m).2.2 = 0 then (if l.length - (cntOut l p m).2.1 < (cntOut l p m).1 then ([], p, 4) else ((l.drop (cntOut l p m).2.1).take (cntOut l p m).1, (cntOut l p m).2.1 + (cntOut l p m).1, 0)) else ([], p, (cntOut l p m).2.2)
theorem rd_Bytes (m : Int) (hm : m ≤ 9223372036854775807) (h : wRd w g (some ad) cap l p) : Calls Try.prog 22 #[.pointer (some ⟨g, 0, none⟩), .int .i64 m] w fun e w' =>
    ∃ v, e = .returned (.tuple #[v, .int .i64 ((bytesOut l p m).2.2 : Int)]) ∧ w'.ownsRow w.heap.size 5 1 v (bytesOut l p m).1.length (bvs (bytesOut l p m).1) ∧ Reads 73 w g (some ad) cap l (bytesOut l p m).2.1 w' := by
  have h0 := h.c0
  have h1 := h.c1
  have hf1 := h.f1
  have hle := h.here
  have hmx := h.max
  have HR := Lib.hid h; clear h
  have hcl := cntOut_le l p m
  have HB : Hid (bytesOut l p m = if (cntOut l p m).2.2 = 0 then (if l.length - (cntOut l p m).2.1 < (cntOut l p m).1 then ([], p, 4) else ((l.drop (cntOut l p m).2.1).take (cntOut l p m).1, (cntOut l p m).2.1 + (cntOut l p m).1, 0)) else ([], p, (cntOut l p m).2.2)) := Lib.hid rfl
  obtain ⟨o, ho⟩ : ∃ o, o = bytesOut l p m := ⟨_, rfl⟩
  rw [← ho] at HB ⊢
  clear ho
  go_enter Try.func22, Try.ntmps22
  go_wp2_with fail
  refine (rd_there HR.out).mono ?_
  rintro e w1 ⟨rfl, rfl⟩
  go_wp2_with fail
  refine (rd_count m hm HR.out).mono ?_
  rintro e w1 ⟨rfl, hr⟩
  have k0 := hr.rd.c0
  have k1 := hr.rd.c1
  have kf := hr.rd.f1
  have kle := hr.rd.here
  have HR1 := Lib.hid hr; clear hr
  generalize cntOut l p m = x at *
  clear h0 h1 hf1
  by_cases he : x.2.2 = 0
  · go_wp2_with fail
    refine (rd_Left HR1.out.rd).mono ?_
    rintro e w2 ⟨rfl, q, rfl⟩
    by_cases hgt : l.length - x.2.1 < x.1
    · have HB' : Hid (o = ([], p, 4)) := Lib.hid (by rw [HB.out, if_pos he, if_pos hgt])
      go_wp2_with fail
      go_ret2
      rw [HB'.out]
      exact ⟨_, rfl, World.ownsRow_nil _ _ _ _, HR1.out.trans (Reads.putd HR1.out.rd _ p HR.out.here _ rfl)⟩
    · have HB' : Hid (o = ((l.drop x.2.1).take x.1, x.2.1 + x.1, 0)) := Lib.hid (by rw [HB.out, if_pos he, if_neg hgt])
      go_wp2_with fail
      have R := HR1.out.trans (Reads.putd HR1.out.rd q (x.2.1 + x.1) (by omega) ((x.2.1 : Int) + (x.1 : Int)) (by simp))
      clear HR1 k0 k1 kf
      have k0 := R.rd.c0
      have k1 := R.rd.c1
      rw [show ((x.2.1 + x.1 : Nat) : Int) = (x.2.1 : Int) + (x.1 : Int) from by simp] at k1
      have HR2 := Lib.hid R; clear R
      generalize (w1.drewN q).setCell ⟨g, 1, none⟩ (.int .i64 ((x.2.1 : Int) + (x.1 : Int))) = W at *
      have B0 : Below W.heap.size W (W.drew.alloc (.cells #[] 5)) := ((Below.refl _ _).drew).alloc (Nat.le_refl _) _
      have hfit := HR2.out.rd.fits
      have hi1 : (0 : Int) ≤ (x.2.1 : Int) := by omega
      have hi2 : (x.2.1 : Int) ≤ (x.2.1 : Int) + (x.1 : Int) := by omega
      have hi3 : (x.2.1 : Int) + (x.1 : Int) ≤ (cap : Int) := by omega
      have HN := Lib.hid hgt
      obtain ⟨n, q', er⟩ := x
      simp only at *
      have hw1 : IntKind.i64.wrap (q' : Int) = (q' : Int) := i64_wrap (by omega) (by omega)
      have hw2 : ((q' : Int) + (n : Int) - (n : Int)) = (q' : Int) := by omega
      have hto : ((q' : Int) + (n : Int)).toNat - q' = n := by omega
      have hlt2 : ¬ (q' : Int) + (n : Int) < (q' : Int) := by omega
      have hlt3 : ¬ (cap : Int) < (q' : Int) + (n : Int) := by omega
      clear hgt
      have hLn : ((l.drop q').take n).length = n := by have := HN.out; simp; omega
      have HLEN : Hid (([] : List UInt8).length + ((l.drop q').take n).length ≤ 70368744177664) := Lib.hid (by simp; omega)
      by_cases hcq : cap = q'
      · obtain rfl : n = 0 := by have := HN.out; omega
        obtain rfl : q' = cap := hcq.symm
        have HS : Hid (Src Try.prog 1 23 (.slice (some ad) 0 0) ([] : List UInt8).length (bvs []) (W.drew.alloc (.cells #[] 5))) := Lib.hid ((BytesAt.nil _ _).src Try.underlying23 0)
        rw [show ((q' : Int) + ((0 : Nat) : Int)) = (q' : Int) from by simp] at k1
        clear hLn
        go_region_held3 (fun w' => w'.cell? ⟨g, 0, none⟩ = some (.slice (some ad) l.length q') ∧ w'.cell? ⟨g, 1, none⟩ = some (.int .i64 (q' : Int)))
          (first
            | exact ⟨k0, k1⟩
            | exact ⟨(B0.cell (p := ⟨g, 0, none⟩) HR2.out.rd.lt).trans k0, (B0.cell (p := ⟨g, 1, none⟩) HR2.out.rd.lt).trans k1⟩
            | exact ⟨((B0.trans hb1).cell (p := ⟨g, 0, none⟩) HR2.out.rd.lt).trans k0, ((B0.trans hb1).cell (p := ⟨g, 1, none⟩) HR2.out.rd.lt).trans k1⟩)
          (first | (refine step_appb rfl _ _ 23 23 rfl W.heap.size 5 byteT (.slice (some ⟨W.heap.size, 0, none⟩) 0 0) [] rfl (own_new W.drew W.heap.size 5 [] (Nat.le_refl _) (by simp)) (.slice (some ad) 0 0) [] rfl HS.out (by simp) (by simp) ?_; intro v' w1 hown1 _ hb1 _))
        have HO1 := Lib.hid hown1; clear hown1
        have HB1 := Lib.hid (B0.trans hb1); clear hb1
        go_wp2_with fail
        go_ret2
        rw [HB'.out]
        rw [List.take_zero]
        exact ⟨_, rfl, own_mono HO1.out (HR2.out.grown.size), HR2.out.rd.below HB1.out, HR2.out.grown.trans (grown_below HB1.out)⟩
      · have HS : Hid (Src Try.prog 1 23 (.slice (some (ad.add q')) n (cap - q')) ((l.drop q').take n).length (bvs ((l.drop q').take n)) (W.drew.alloc (.cells #[] 5))) := Lib.hid (by
          have h1 := ((HR2.out.rd.bytes.sub cap q' n (by have := HN.out; omega) hfit).below B0 rfl).src Try.underlying23 (cap - q')
          unfold subAddr at h1
          rw [if_neg hcq, hLn] at h1
          rwa [hLn])
        clear hLn
        go_region_held3 (fun w' => w'.cell? ⟨g, 0, none⟩ = some (.slice (some ad) l.length cap) ∧ w'.cell? ⟨g, 1, none⟩ = some (.int .i64 ((q' : Int) + (n : Int))))
          (first
            | exact ⟨k0, k1⟩
            | exact ⟨(B0.cell (p := ⟨g, 0, none⟩) HR2.out.rd.lt).trans k0, (B0.cell (p := ⟨g, 1, none⟩) HR2.out.rd.lt).trans k1⟩
            | exact ⟨((B0.trans hb1).cell (p := ⟨g, 0, none⟩) HR2.out.rd.lt).trans k0, ((B0.trans hb1).cell (p := ⟨g, 1, none⟩) HR2.out.rd.lt).trans k1⟩)
          (first | (refine step_appb rfl _ _ 23 23 rfl W.heap.size 5 byteT (.slice (some ⟨W.heap.size, 0, none⟩) 0 0) [] rfl (own_new W.drew W.heap.size 5 [] (Nat.le_refl _) (by simp)) (.slice (some (ad.add q')) n (cap - q')) ((l.drop q').take n) rfl HS.out HLEN.out (by simp) ?_; intro v' w1 hown1 _ hb1 _))
        have HO1 := Lib.hid hown1; clear hown1
        have HB1 := Lib.hid (B0.trans hb1); clear hb1
        go_wp2_with fail
        go_ret2
        rw [HB'.out]
        exact ⟨_, rfl, own_mono HO1.out (HR2.out.grown.size), HR2.out.rd.below HB1.out, HR2.out.grown.trans (grown_below HB1.out)⟩
  · have HB' : Hid (o = ([], p, x.2.2)) := Lib.hid (by rw [HB.out, if_neg he])
    go_wp2_with fail
    go_ret2
    rw [HB'.out]
    exact ⟨_, rfl, World.ownsRow_nil _ _ _ _, HR1.out.trans (Reads.putd HR1.out.rd 0 p HR.out.here _ rfl)⟩
end
end Go.Proofs.Ytbgnkdbbkkoinaa
