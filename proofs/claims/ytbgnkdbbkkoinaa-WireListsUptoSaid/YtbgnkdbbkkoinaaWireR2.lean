/- Walks: the reference's readers of flags and bytes. -/
import Derived.Test.YtbgnkdbbkkoinaaWireR1
namespace Go.Proofs.Ytbgnkdbbkkoinaa
open Go.RowKit Wire
section
variable {w : World} {g : Nat} {ad : Option Addr} {cap : Nat} {l : List UInt8} {p : Nat}
theorem quiet_drew {P : Program} {f : FuncId} {args : Array Value} {w : World} {v : Value} (h : Calls P f args w fun e w' => e = .returned v ∧ ∃ q, w' = w.drewN q) : Calls P f args w fun e w' => e = .returned v ∧ ∃ q, w' = w.drewN q := h
theorem d_Flag (h : dRd w g ad cap l p) : Calls Try.prog 42 #[.pointer (some ⟨g, 0, none⟩)] w fun e w' =>
    e = .returned (.tuple #[.bool (flagOut l p).1, .int .i64 ((flagOut l p).2.2 : Int)]) ∧ Reads 61 w g ad cap l (flagOut l p).2.1 w' := by
  have h0 := h.c0
  have h1 := h.c1
  have hf1 := h.f1
  have hle := h.here
  have hmx := h.max
  have HR := Lib.hid h; clear h
  have hp : ((p : Int) < 0) = False := by simp
  by_cases hlt : p < l.length
  · obtain ⟨ad', rfl, hc⟩ := HR.out.bytes.get hlt
    have HF : Hid (flagOut l p = if 1 < (l[p]).toNat then (false, p, 4) else (decide ((l[p]).toNat = 1), p + 1, 0)) := Lib.hid (by unfold flagOut; rw [dif_pos hlt])
    generalize hcv : (l[p]).toNat = c at hc HF
    have hc256 : c < 256 := by rw [← hcv]; exact UInt8.toNat_lt _
    have HCV := Lib.hid hcv
    clear hcv
    have hd0 : (((l.length - p : Nat) : Int) == 0) = false := by simp; omega
    by_cases h1c : 1 < c
    · have HF' : Hid (flagOut l p = (false, p, 4)) := Lib.hid (by rw [HF.out, if_pos h1c])
      go_enter Try.func42, Try.ntmps42
      go_wp2_with fail
      go_quiet (first | (go_at_call 32; exact Calls.quiet_of (d_Left (Stays.d HR.out _).rd)))
      go_wp2_with fail
      go_ret2
      rw [HF'.out]
      exact ⟨rfl, Stays.d HR.out _⟩
    · have HF' : Hid (flagOut l p = (decide (c = 1), p + 1, 0)) := Lib.hid (by rw [HF.out, if_neg h1c])
      go_enter Try.func42, Try.ntmps42
      go_wp2_with fail
      go_quiet (first | (go_at_call 32; exact Calls.quiet_of (d_Left (Stays.d HR.out _).rd)))
      go_wp2_with fail
      have R := Puts.d HR.out nq (p + 1) (by omega) ((p : Int) + 1) (by simp)
      have k0 := R.rd.c0
      have k1 := R.rd.c1
      rw [show ((p + 1 : Nat) : Int) = (p : Int) + 1 from by simp] at k1
      obtain ⟨_, hq, kc⟩ := R.rd.bytes.get hlt
      obtain rfl := Option.some.inj hq
      rw [HCV.out] at kc
      have HR2 := Lib.hid R; clear R
      generalize (w.drewN nq).setCell ⟨g, 1, none⟩ (.int .i64 ((p : Int) + 1)) = W at *
      go_quiet (fail)
      go_wp2_with fail
      go_ret2
      rw [HF'.out]
      refine ⟨?_, HR2.out.trans (Stays.d HR2.out.rd _)⟩
      have hdc : (((c : Int) == 1) : Bool) = decide (c = 1) := by
        by_cases hc1 : c = 1
        · simp [hc1]
        · simp [hc1]; omega
      simp [hdc]
  · have HF' : Hid (flagOut l p = (false, p, 4)) := Lib.hid (by unfold flagOut; rw [dif_neg hlt])
    have hz : l.length - p = 0 := by omega
    have hd0 : (((l.length - p : Nat) : Int) == 0) = true := by simp; omega
    go_enter Try.func42, Try.ntmps42
    go_wp2_with fail
    go_quiet (first | (go_at_call 32; exact Calls.quiet_of (d_Left (Stays.d HR.out _).rd)))
    go_wp2_with fail
    go_ret2
    rw [HF'.out]
    exact ⟨rfl, Stays.d HR.out _⟩
end
end Go.Proofs.Ytbgnkdbbkkoinaa

