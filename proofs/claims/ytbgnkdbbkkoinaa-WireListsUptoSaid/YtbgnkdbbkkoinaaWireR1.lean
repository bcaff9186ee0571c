/- Walks: the reference's readers. -/
import Derived.Test.YtbgnkdbbkkoinaaChain
namespace Go.Proofs.Ytbgnkdbbkkoinaa
open Go.RowKit Wire
section
variable {w : World} {g : Nat} {ad : Option Addr} {cap : Nat} {l : List UInt8} {p : Nat}
theorem BytesAt.get {w : World} {l : List UInt8} {a : Option Addr} {i : Nat} (h : BytesAt w a l) (hi : i < l.length) : ∃ ad, a = some ad ∧ w.cell? (ad.add i) = some (.int .u8 (l[i].toNat : Int)) := by
  obtain ⟨b, off, rfl, hc⟩ := h i hi
  exact ⟨_, rfl, by rw [Addr.add_lit]; exact hc⟩
theorem Stays.d {T : TypeId} (h : RdAt T w g ad cap l p) (q : Nat) : Reads T w g ad cap l p (w.drewN q) := ⟨⟨h.row, h.bytes, h.here, h.max, h.fits⟩, ⟨rfl, rfl, rfl, Nat.le_refl _, fun _ _ _ => rfl⟩⟩
theorem Puts.d {T : TypeId} (h : RdAt T w g ad cap l p) (q n : Nat) (hn : n ≤ l.length) (x : Int) (hx : x = n) : Reads T w g ad cap l n ((w.drewN q).setCell ⟨g, 1, none⟩ (.int .i64 x)) := by
  subst hx
  exact (Stays.d h q).trans (Reads.put (Stays.d h q).rd n hn)
theorem d_Left (h : dRd w g ad cap l p) : Calls Try.prog 32 #[.pointer (some ⟨g, 0, none⟩)] w fun e w' => e = .returned (.int .i64 ((l.length - p : Nat) : Int)) ∧ ∃ q, w' = w.drewN q := by
  have h0 := h.c0
  have h1 := h.c1
  have hle := h.here
  have hmx := h.max
  go_enter Try.func32, Try.ntmps32
  go_wp2_with fail
  go_quiet (fail)
  go_wp2_with fail
  go_ret
  exact ⟨by rw [Int.ofNat_sub hle]; rfl, _, rfl⟩
theorem digit_add (acc c s : Nat) (hacc : acc < 2 ^ s) (hc : c < 256) (hfit : s ≤ 56 ∨ s = 63 ∧ c ≤ 1) :
    (∀ P : Int, P = 2 ^ s → IntKind.u64.wrap ((acc : Int) + IntKind.u64.wrap (((c : Int) % 128) * P)) = ((acc + c % 128 * 2 ^ s : Nat) : Int)) := by
  have h2 := (digit_in acc c s hacc hc hfit).2
  intro P hP
  subst hP
  rw [show (c : Int) % 128 = ((c % 128 : Nat) : Int) from by omega, show ((c % 128 : Nat) : Int) * 2 ^ s = ((c % 128 * 2 ^ s : Nat) : Int) by simp]
  rw [u64_wrap ((c % 128 * 2 ^ s : Nat) : Int), Int.emod_eq_of_lt (by omega) (by omega), u64_wrap]
  omega
theorem digit_63 (acc c k : Nat) (hk : k = 9) (hc : ¬ (k = 9 ∧ 1 < c)) (hacc : acc < 2 ^ (7 * k)) : IntKind.u64.wrap ((acc : Int) + (c : Int) % 128 * 9223372036854775808) = ((acc + c % 128 * 2 ^ (7 * k) : Nat) : Int) := by
  subst hk
  have h1 : c ≤ 1 := by omega
  have h2 : (2 : Nat) ^ (7 * 9) = 9223372036854775808 := by decide
  rw [h2] at hacc ⊢
  rw [u64_wrap]
  omega
set_option maxRecDepth 20000 in
theorem d_Number (h : dRd w g ad cap l p) : Calls Try.prog 40 #[.pointer (some ⟨g, 0, none⟩)] w fun e w' =>
    e = .returned (.tuple #[.int .u64 ((numOut l p).1 : Int), .int .i64 ((numOut l p).2.2 : Int)]) ∧ Reads 61 w g ad cap l (numOut l p).2.1 w' := by
  have h0 := h.c0
  have h1 := h.c1
  have hf1 := h.f1
  have hle := h.here
  have hmx := h.max
  have HR := Lib.hid h; clear h
  go_enter Try.func40, Try.ntmps40
  go_wp2_with fail
  go_loopw [4, 5] (fun n i wr => ∃ k acc : Nat, n = .int .u64 acc ∧ i = .int .i64 (k : Int) ∧ acc < 2 ^ (7 * k) ∧ k ≤ 9 ∧ p + k ≤ l.length ∧ rd (l.drop (p + k)) k acc = rd (l.drop p) 0 0 ∧ Reads 61 w g ad cap l p wr) (fun _ i _ => 10 - (intOf i).toNat)
  case atStart => exact ⟨0, 0, rfl, rfl, by decide, by omega, by omega, rfl, Reads.stay HR.out⟩
  case round =>
    clear h0 h1 hf1
    obtain ⟨k, acc, rfl, rfl, hacc, hk, hpk, hrd, hr⟩ := hrel
    have h0 := hr.rd.c0
    have h1 := hr.rd.c1
    have hf1 := hr.rd.f1
    have HW := Lib.hid hr; clear hr
    have HA := Lib.hid hacc; clear hacc
    have HD := Lib.hid hrd; clear hrd
    have hk10 : (k : Int) < 10 := by omega
    have hd10 : decide ((k : Int) < 10) = true := by simpa using hk10
    have hw1 : IntKind.i64.wrap ((p : Int) + (k : Int)) = (p : Int) + (k : Int) := i64_wrap (by omega) (by omega)
    by_cases hlt : p + k < l.length
    · have hd1 : decide ((p : Int) + (k : Int) < (l.length : Int)) = true := by simp; omega
      have hi0 : (0 : Int) ≤ (p : Int) + (k : Int) := by omega
      have hi1 : (p : Int) + (k : Int) < (l.length : Int) := by omega
      have hi2 : ((p : Int) + (k : Int)).toNat = p + k := by omega
      obtain ⟨ad', rfl, hc⟩ := HW.out.rd.bytes.get hlt
      have HDK := Lib.hid (rd_at hlt k acc)
      generalize hcv : (l[p + k]).toNat = c at hc HDK
      have hc256 : c < 256 := by rw [← hcv]; exact UInt8.toNat_lt _
      clear hcv
      go_wp2_with fail
      go_quiet (fail)
      generalize nq = q1 at *
      go_wp2_with fail
      go_quiet (fail)
      have HW1 := Lib.hid (((HW.out.trans (Stays.d HW.out.rd q1)).trans (Stays.d (Stays.d HW.out.rd q1).rd nq)))
      clear hd10 hd1 hi0 hi1 hi2 hc h0 h1 hf1
      generalize (wr.drewN q1).drewN nq = W at *
      have h1 := HW1.out.rd.c1
      have hf1 := HW1.out.rd.f1
      by_cases hbad : k = 9 ∧ 1 < c ∨ 0 < k ∧ c = 0
      · have HN : Hid (numOut l p = (0, p, 4)) := Lib.hid (by unfold numOut; rw [← HD.out, HDK.out, if_pos (by omega)])
        clear HDK HD
        rcases hbad with ⟨hk9, h1c⟩ | ⟨hk0, hc0⟩
        · go_wp2_with fail
          all_goals
            go_ret2
            rw [HN.out]
            exact ⟨rfl, HW1.out⟩
        · go_wp2_with fail
          all_goals
            go_ret2
            rw [HN.out]
            exact ⟨rfl, HW1.out⟩
      · have hgood : ¬ (k = 9 ∧ 1 < c) := by omega
        have hgood2 : ¬ (0 < k ∧ c = 0) := by omega
        have HV := Lib.hid (digit_add acc c (7 * k) HA.out hc256 (by omega) _ rfl)
        clear hbad
        by_cases h128 : c < 128
        · have HN : Hid (numOut l p = (acc + c % 128 * 2 ^ (7 * k), p + (k + 1), 0)) := Lib.hid (by
            unfold numOut; rw [← HD.out, HDK.out, if_neg (by omega), if_pos h128])
          go_wp2_with fail
          all_goals
            first
              | (exfalso; simp only [beq_iff_eq] at *; omega)
              | (go_ret2
                 rw [HN.out]
                 refine ⟨u64_tup ?_ rfl, HW1.out.trans (Puts.d HW1.out.rd 0 (p + (k + 1)) (by omega) _ (by simp; omega))⟩
                 first
                   | exact HV.out
                   | exact digit_63 acc c k (by first | omega | (simp only [beq_iff_eq] at *; omega)) hgood HA.out)
        · have HE : Hid (acc + c % 128 * 2 ^ (7 * k) < 2 ^ (7 * (k + 1)) ∧ rd (l.drop (p + (k + 1))) (k + 1) (acc + c % 128 * 2 ^ (7 * k)) = rd (l.drop p) 0 0 ∧ k ≠ 9) := Lib.hid (by
            have h2 := HA.out
            have h3 := HDK.out
            have h63 : k ≠ 9 := by omega
            rw [if_neg (by omega), if_neg h128] at h3
            rw [pow_split]
            refine ⟨?_, by rw [← HD.out, h3]; rfl, h63⟩
            have h4 : (c % 128 + 1) * 2 ^ (7 * k) ≤ 128 * 2 ^ (7 * k) := Nat.mul_le_mul_right _ (by omega)
            rw [Nat.add_mul] at h4
            omega)
          go_wp2_with fail
          all_goals
            first
              | (exfalso; simp only [beq_iff_eq] at *; omega)
              | (go_roundw
                 case rel => exact ⟨k + 1, acc + c % 128 * 2 ^ (7 * k), congrArg (Value.int .u64) HV.out, by go_num, HE.out.1, by have := HE.out.2.2; omega, by omega, HE.out.2.1, HW1.out⟩
                 case measure => simp [intOf]; omega)
    · have hd1 : decide ((p : Int) + (k : Int) < (l.length : Int)) = false := by simp; omega
      have HN : Hid (numOut l p = (0, p, 4)) := Lib.hid (by unfold numOut; rw [← HD.out, rd_nil' (by omega)])
      go_wp2_with fail
      go_quiet (fail)
      go_wp2_with fail
      go_ret2
      rw [HN.out]
      exact ⟨rfl, HW.out.trans (Stays.d HW.out.rd _)⟩
theorem i64_ret {a b : Int} (h : a = b) : Ending.returned (.int .i64 a) = .returned (.int .i64 b) := by rw [h]
theorem ref_Unfolded (u : Nat) (w : World) (hu : u < 18446744073709551616) : Calls Try.prog 46 #[.int .u64 (u : Int)] w fun e w' => e = .returned (.int .i64 (unfoldN u)) ∧ w = w' := by
  by_cases h : u % 2 = 1
  · have HN : Hid (unfoldN u = -((u / 2 : Nat) : Int) - 1) := Lib.hid (by unfold unfoldN; rw [if_pos h])
    have h' : ((u : Int) % 2 == 1) = true := by simp; omega
    go_enter Try.func46, Try.ntmps46
    go_wp2_with fail
    go_ret
    rw [HN.out]
    exact ⟨i64_ret (by first | omega | (simp only [wrap64]; omega)), rfl⟩
  · have HN : Hid (unfoldN u = ((u / 2 : Nat) : Int)) := Lib.hid (by unfold unfoldN; rw [if_neg h])
    have h' : ((u : Int) % 2 == 1) = false := by simp; omega
    go_enter Try.func46, Try.ntmps46
    go_wp2_with fail
    go_ret
    rw [HN.out]
    exact ⟨i64_ret (by first | omega | (simp only [wrap64]; omega)), rfl⟩
theorem d_Signed (h : dRd w g ad cap l p) : Calls Try.prog 41 #[.pointer (some ⟨g, 0, none⟩)] w fun e w' =>
    e = .returned (.tuple #[.int .i64 (unfoldN (numOut l p).1), .int .i64 ((numOut l p).2.2 : Int)]) ∧ Reads 61 w g ad cap l (numOut l p).2.1 w' := by
  have HR := Lib.hid h; clear h
  have hlt := numOut_lt l p
  go_enter Try.func41, Try.ntmps41
  go_wp2_with fail
  refine (d_Number HR.out).mono ?_
  rintro e w1 ⟨rfl, hr⟩
  have HR1 := Lib.hid hr; clear hr
  obtain ⟨o, ho⟩ : ∃ o, o = numOut l p := ⟨_, rfl⟩
  rw [← ho] at HR1 hlt ⊢
  have HO := Lib.hid ho; clear ho
  go_wp2_with fail
  refine (ref_Unfolded _ _ hlt).mono ?_
  rintro e w2 ⟨rfl, rfl⟩
  go_wp2_with fail
  go_ret2
  rw [← HO.out]
  exact ⟨rfl, HR1.out⟩
end
end Go.Proofs.Ytbgnkdbbkkoinaa

