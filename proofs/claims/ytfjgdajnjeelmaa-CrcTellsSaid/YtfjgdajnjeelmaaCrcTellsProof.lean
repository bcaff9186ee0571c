/- CrcTells: for any two lists of bytes, any places, any burst, the law answers true and leaves its arguments as they are. No condition. -/
import Derived.Test.YtfjgdajnjeelmaaCrcTells
import Derived.Test.YtfjgdajnjeelmaaOpen
import Derived.ChangeOld
namespace Go.Proofs.Ytfjgdajnjeelmaa.crcTells
open Go.ChangeShapes Go.WideShapes Go.ChangeAt Go.RowKit Crc

theorem own : ownKnob Try.prog.godebug = none := by kernel_rfl
theorem laidOut : laidOutB Try.prog = true := by kernel_rfl
theorem list2 {α : Type} (l : List α) (h : l.length = 2) : ∃ a b, l = [a, b] := by
  match l, h with
  | [a, b], _ => exact ⟨a, b, rfl⟩
theorem list3 {α : Type} (l : List α) (h : l.length = 3) : ∃ a b c, l = [a, b, c] := by
  match l, h with
  | [a, b, c], _ => exact ⟨a, b, c, rfl⟩

set_option maxRecDepth 100000 in
theorem lifted (os : Os) (started : os.Started) (H : Type) (enc : TypeId × Value → H) :
    ReturnsInHanded {} Try.checked os 4 .any (Rows.crcTellsSpec.pre6 enc Try.prog Try.f4 Rows.crcTellsRow.domain false) (Rows.crcTellsSpec.post enc Try.prog Try.f4 false true false false) := by
  refine returnsInHanded_of_change (C := Try.checked) own started (by kernel_rfl) Try.func4
    (ChangeSpec.witness6 (enc := enc) (C := Try.checked) false ⟨#[], #[.agg #[.slice none 0 0, .slice none 0 0], .agg #[.int .i64 0, .int .i64 0, .int .i64 0], .int .u32 0], []⟩ 8 (by kernel_rfl) (by kernel_rfl) (by kernel_rfl) (by kernel_rfl)) ?_
  intro W base args ds gs before hval0 hW hcnd _
  have hval : ∀ (j : Nat) t v, Try.f4.params[j]? = some t → args[j]? = some v → Value.okWide Try.prog W .any base t v := hval0
  have hW' := hW
  obtain ⟨p, q, hA0, hV, rfl, hfz, hnd⟩ := hW
  have hA : DataW.TrodAll enc Try.prog W 0 (fun _ => true) true Try.f4.params.toList args.toList ds p := hA0
  rw [Try.params4] at hA hval
  obtain ⟨v0, vs0, d0, ds0, p0, q0, hargs, rfl, rfl, h0, r0⟩ := trodAll_cons hA
  obtain ⟨v1, vs1, d1, ds1, p1, q1, rfl, rfl, rfl, h1, r1⟩ := trodAll_cons r0
  obtain ⟨v2, vs2, d2, ds2, p2, q2, rfl, rfl, rfl, h2, r2⟩ := trodAll_cons r1
  obtain ⟨rfl, rfl, rfl⟩ := trodAll_nil r2
  obtain rfl : args = #[v0, v1, v2] := by cases args; simp_all
  obtain ⟨rfl, rfl⟩ := trodVars_none hV
  have k0 := h0
  have lt0 : ∀ x ∈ p0, x.block < W.heap.size := by obtain ⟨m, hm⟩ := k0; exact DataW.trod_lt m _ _ _ hm
  have k1 := h1
  have lt1 : ∀ x ∈ p1, x.block < W.heap.size := by obtain ⟨m, hm⟩ := k1; exact DataW.trod_lt m _ _ _ hm
  obtain ⟨x, rfl, rfl, rfl, w2⟩ := open_int Try.underlying23 (hval 2 23 v2 rfl rfl) h2
  obtain ⟨y, rfl⟩ := u32_word x w2
  obtain ⟨cs, rfl, hcl, xs, m, _, hxl, hget⟩ := open_array Try.underlying32 (by kernel_rfl) (by kernel_rfl) (hval 0 32 v0 rfl rfl) h0
  obtain ⟨c0, c1, rfl⟩ := list2 cs hcl
  obtain ⟨x0, x1, rfl⟩ := list2 xs hxl
  obtain ⟨a0, cap0, l0, e0, hb0, hm0, _⟩ := open_bytes_cs Try.underlying24 Try.underlying5 (by kernel_rfl) (hget 0 (by simp) (by simp))
  obtain ⟨a1, cap1, l1, e1, hb1, hm1, _⟩ := open_bytes_cs Try.underlying24 Try.underlying5 (by kernel_rfl) (hget 1 (by simp) (by simp))
  simp at e0 e1
  subst e0 e1
  obtain ⟨ct, rfl, hctl, ys, m2, _, hyl, hgett⟩ := open_array Try.underlying33 (by kernel_rfl) (by kernel_rfl) (hval 1 33 v1 rfl rfl) h1
  obtain ⟨t0, t1, t2, rfl⟩ := list3 ct hctl
  obtain ⟨y0, y1, y2, rfl⟩ := list3 ys hyl
  obtain ⟨n0, f0, _, _⟩ := DataW.trod_int Try.underlying3 (hgett 0 (by simp) (by simp))
  obtain ⟨n1, f1, _, _⟩ := DataW.trod_int Try.underlying3 (hgett 1 (by simp) (by simp))
  obtain ⟨n2, f2, _, _⟩ := DataW.trod_int Try.underlying3 (hgett 2 (by simp) (by simp))
  simp at f0 f1 f2
  subst f0 f1 f2
  clear hA0 hval0
  refine (tells_walk l0 l1 a0 a1 cap0 cap1 n0 n1 n2 y W hb0 hb1 hm0 hm1).mono fun e W' ⟨he, bel⟩ => ?_
  subst he
  exact ⟨_, rfl, _, _, _, [], _, [], hW', trodAll_mk1 (shut_bool Try.underlying4 _), (trodAll_cons_mk (Below.trod laidOut (by kernel_rfl) (of_decide_eq_true (by kernel_rfl)) k0 bel lt0) (trodAll_cons_mk (Below.trod laidOut (by kernel_rfl) (of_decide_eq_true (by kernel_rfl)) k1 bel lt1) (trodAll_cons_mk (shut_int Try.underlying23 w2) trodAll_mk0))), rfl, bel.frame _, fun h => by cases h⟩

theorem over : Rows.crcTellsRow.holds Try.pinned (OpenSpec.ofChange Rows.crcTellsSpec) :=
  OpenClaim.holds_of_wide 4 Try.f4 rfl rfl rfl rfl rfl rfl rfl ⟨rfl, rfl, rfl, rfl, rfl⟩ rfl rfl rfl rfl rfl (by kernel_rfl) Try.func4 (by kernel_rfl)
    (of_decide_eq_true (by kernel_rfl)) (by unfold Func.isWrapper; first | (rw [if_pos (by decide +kernel)]; kernel_rfl) | (rw [if_neg (by decide +kernel)]; exact ⟨rfl, rfl⟩))
    (fun os started H enc _ => lifted os started H enc)

theorem proved : Rows.CrcTellsSaid := over
#print axioms proved
end Go.Proofs.Ytfjgdajnjeelmaa.crcTells
