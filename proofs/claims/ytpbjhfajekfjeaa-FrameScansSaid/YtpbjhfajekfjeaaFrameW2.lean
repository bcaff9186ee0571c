
/- Walks: the frame with which bytes begin. -/
import Derived.Test.YtpbjhfajekfjeaaFrameW1
namespace Go.Proofs.Ytpbjhfajekfjeaa
open Go.RowKit Frm
namespace Frm
def n4 (a b c d : UInt8) : Nat := ((a.toNat * 256 + b.toNat) * 256 + c.toNat) * 256 + d.toNat
theorem n4_lt (a b c d : UInt8) : n4 a b c d < 4294967296 := by
  have := a.toNat_lt; have := b.toNat_lt; have := c.toNat_lt; have := d.toNat_lt
  unfold n4; omega
/-- What begin answers: the kind, the body, how many bytes, the error. -/
def begF : List UInt8 → Nat × List UInt8 × Nat × Nat
  | k :: l0 :: l1 :: l2 :: l3 :: s0 :: s1 :: s2 :: s3 :: rest =>
    if 16777216 < n4 l0 l1 l2 l3 then (0, [], 0, 141)
    else if rest.length < n4 l0 l1 l2 l3 then (0, [], 0, 140)
    else if (Crc.sum ([k, l0, l1, l2, l3] ++ rest.take (n4 l0 l1 l2 l3))).toNat ≠ n4 s0 s1 s2 s3 then (0, [], 0, 141)
    else (k.toNat, rest.take (n4 l0 l1 l2 l3), 9 + n4 l0 l1 l2 l3, 0)
  | _ => (0, [], 0, 140)
theorem begF_few (l : List UInt8) (h : l.length < 9) : begF l = (0, [], 0, 140) := by
  unfold begF
  split
  · simp at h; omega
  · rfl
theorem nine (l : List UInt8) (h : 9 ≤ l.length) : ∃ k l0 l1 l2 l3 s0 s1 s2 s3 rest, l = k :: l0 :: l1 :: l2 :: l3 :: s0 :: s1 :: s2 :: s3 :: rest := by
  match l, h with
  | k :: l0 :: l1 :: l2 :: l3 :: s0 :: s1 :: s2 :: s3 :: rest, _ => exact ⟨k, l0, l1, l2, l3, s0, s1, s2, s3, rest, rfl⟩
theorem or_four (a b c d : Nat) (hb : b < 256) (hc : c < 256) (hd : d < 256) : ((a * 16777216 ||| b * 65536) ||| c * 256) ||| d = ((a * 256 + b) * 256 + c) * 256 + d := by
  have h1 := Nat.shiftLeft_add_eq_or_of_lt (i := 24) (b := b * 65536) (by omega) a
  have h2 := Nat.shiftLeft_add_eq_or_of_lt (i := 16) (b := c * 256) (by omega) (a * 256 + b)
  have h3 := Nat.shiftLeft_add_eq_or_of_lt (i := 8) (b := d) (by omega) ((a * 256 + b) * 256 + c)
  simp only [Nat.shiftLeft_eq] at h1 h2 h3
  rw [show (2 : Nat) ^ 24 = 16777216 from rfl] at h1
  rw [show (2 : Nat) ^ 16 = 65536 from rfl] at h2
  rw [show (2 : Nat) ^ 8 = 256 from rfl] at h3
  rw [← h1, show a * 16777216 + b * 65536 = (a * 256 + b) * 65536 from by rw [Nat.add_mul, Nat.mul_assoc], ← h2, show (a * 256 + b) * 65536 + c * 256 = ((a * 256 + b) * 256 + c) * 256 from by rw [Nat.add_mul ((a * 256 + b) * 256) c 256, Nat.mul_assoc (a * 256 + b) 256 256], ← h3]
theorem i64_or_nat (a b : Nat) (ha : a < 2 ^ 62) (hb : b < 2 ^ 62) : bits .or .i64 (a : Int) (b : Int) = ((a ||| b : Nat) : Int) := by
  have h62 : (2 : Nat) ^ 62 = 4611686018427387904 := by decide
  have hlt : (a ||| b) < 2 ^ 62 := Nat.or_lt_two_pow ha hb
  rw [h62] at ha hb hlt
  have h := u64_or_nat a b (by omega) (by omega)
  have h' : IntKind.u64.wrap ((BitVec.ofInt 64 (a : Int) ||| BitVec.ofInt 64 (b : Int)).toNat : Int) = ((a ||| b : Nat) : Int) := h
  have hb' := (BitVec.ofInt 64 (a : Int) ||| BitVec.ofInt 64 (b : Int)).isLt
  rw [u64_wrap, Int.emod_eq_of_lt (by omega) (by omega)] at h'
  show IntKind.i64.wrap ((BitVec.ofInt 64 (a : Int) ||| BitVec.ofInt 64 (b : Int)).toNat : Int) = _
  rw [h']
  simp [IntKind.wrap, IntKind.bits, IntKind.signed]
  omega
theorem or4_i64 (a b c d : UInt8) : bits .or .i64 (bits .or .i64 (bits .or .i64 ((a.toNat : Int) * 16777216) ((b.toNat : Int) * 65536)) ((c.toNat : Int) * 256)) (d.toNat : Int) = ((n4 a b c d : Nat) : Int) := by
  have ha := a.toNat_lt; have hb := b.toNat_lt; have hc := c.toNat_lt; have hd := d.toNat_lt
  have h62 : (2 : Nat) ^ 62 = 4611686018427387904 := by decide
  have e1 : (a.toNat : Int) * 16777216 = ((a.toNat * 16777216 : Nat) : Int) := by simp
  have e2 : (b.toNat : Int) * 65536 = ((b.toNat * 65536 : Nat) : Int) := by simp
  have e3 : (c.toNat : Int) * 256 = ((c.toNat * 256 : Nat) : Int) := by simp
  have l1 : a.toNat * 16777216 ||| b.toNat * 65536 < 2 ^ 62 := Nat.or_lt_two_pow (by rw [h62]; omega) (by rw [h62]; omega)
  have l2 : (a.toNat * 16777216 ||| b.toNat * 65536) ||| c.toNat * 256 < 2 ^ 62 := Nat.or_lt_two_pow l1 (by rw [h62]; omega)
  rw [e1, e2, e3, i64_or_nat _ _ (by rw [h62]; omega) (by rw [h62]; omega), i64_or_nat _ _ l1 (by rw [h62]; omega), i64_or_nat _ _ l2 (by rw [h62]; omega), or_four _ _ _ _ hb hc hd]
  rfl
theorem or4_u32 (a b c d : UInt8) : bits .or .u32 (bits .or .u32 (bits .or .u32 ((a.toNat : Int) * 16777216) ((b.toNat : Int) * 65536)) ((c.toNat : Int) * 256)) (d.toNat : Int) = ((n4 a b c d : Nat) : Int) := by
  have ha := a.toNat_lt; have hb := b.toNat_lt; have hc := c.toNat_lt; have hd := d.toNat_lt
  have h32 : (2 : Nat) ^ 32 = 4294967296 := by decide
  have e1 : (a.toNat : Int) * 16777216 = ((a.toNat * 16777216 : Nat) : Int) := by simp
  have e2 : (b.toNat : Int) * 65536 = ((b.toNat * 65536 : Nat) : Int) := by simp
  have e3 : (c.toNat : Int) * 256 = ((c.toNat * 256 : Nat) : Int) := by simp
  have l1 : a.toNat * 16777216 ||| b.toNat * 65536 < 2 ^ 32 := Nat.or_lt_two_pow (by rw [h32]; omega) (by rw [h32]; omega)
  have l2 : (a.toNat * 16777216 ||| b.toNat * 65536) ||| c.toNat * 256 < 2 ^ 32 := Nat.or_lt_two_pow l1 (by rw [h32]; omega)
  rw [e1, e2, e3, u32_or_nat _ _ (by omega) (by omega), u32_or_nat _ _ (by rw [← h32]; exact l1) (by omega), u32_or_nat _ _ (by rw [← h32]; exact l2) (by omega), or_four _ _ _ _ hb hc hd]
  rfl
end Frm
theorem set_grown (w : World) (X o : Nat) (v : Value) : w.grownBy (w.setCell ⟨X, o, none⟩ v) (some X) := ⟨rfl, rfl, rfl, by simp [World.setCell], fun k hk hne => Below.heap_setCell _ _ _ _ (fun e => hne (by rw [e]))⟩
theorem set2 {w : World} {X : Nat} {t : TypeId} {x0 x1 : Value} (h : w.heap[X]? = some (.cells #[x0, x1] t (0, 0))) (a b : Value) : ((w.setCell ⟨X, 0, none⟩ a).setCell ⟨X, 1, none⟩ b).heap[X]? = some (.cells #[a, b] t (0, 0)) := by
  have h1 := heap_setCell_same w X 0 _ t a h
  have h2 := heap_setCell_same _ X 1 _ t b h1
  simpa using h2
theorem below_set2 {w w1 : World} {B X : Nat} (h : Below B w w1) (hX : B ≤ X) (a b : Value) : Below B w ((w1.setCell ⟨X, 0, none⟩ a).setCell ⟨X, 1, none⟩ b) :=
  (h.setCell (p := ⟨X, 0, none⟩) hX _).setCell (p := ⟨X, 1, none⟩) hX _
set_option maxRecDepth 20000 in
set_option maxHeartbeats 1000000 in
theorem frame_begin (l : List UInt8) (a : Option Addr) (cap : Nat) (w : World) (h : BytesAt w a l) (hcap : l.length ≤ cap) (hl : l.length ≤ 1048576) :
    Calls Try.prog 20 #[.slice a l.length cap] w fun e w' =>
      ∃ v, e = .returned (.tuple #[.agg #[.int .i64 ((begF l).1 : Int), v], .int .i64 ((begF l).2.2.1 : Int), .int .i64 ((begF l).2.2.2 : Int)]) ∧ w'.ownsRow w.heap.size 5 1 v (begF l).2.1.length (bvs (begF l).2.1) ∧ Below w.heap.size w w' := by
  have H := Lib.hid h; clear h
  by_cases h9 : l.length < 9
  · have HF := Lib.hid (begF_few l h9)
    have h9' : (l.length : Int) < 9 := by omega
    go_enter Try.func20, Try.ntmps20
    go_wp2_with fail
    refine bodyPost_ret (v := .tuple #[.agg #[.int .i64 0, .slice none 0 0], .int .i64 0, .int .i64 140]) (by simp [results, Try.results20, go_sem]) rfl ?_
    rw [HF.out]
    exact ⟨_, rfl, World.ownsRow_nil _ _ _ _, below_new _ _⟩
  · obtain ⟨k, l0, l1, l2, l3, s0, s1, s2, s3, rest, hlr⟩ := nine l (by omega)
    have HLR := Lib.hid hlr; clear hlr
    have h9' : ¬ (l.length : Int) < 9 := by omega
    obtain ⟨ba, off, had, _⟩ := H.out 0 (by omega)
    subst had
    have D0 := Lib.hid (below_new w (.cells #[.int .i64 0, .slice none 0 0] 36))
    have HX := Lib.hid (heap_alloc_new w (.cells #[.int .i64 0, .slice none 0 0] 36))
    have HLL := Lib.hid (congrArg List.length HLR.out)
    obtain ⟨len, hlen⟩ : ∃ len, len = l.length := ⟨_, rfl⟩
    rw [← hlen] at h9 h9' hcap hl ⊢
    have HLN := Lib.hid hlen; clear hlen
    have i1 : (1 : Int) < (len : Int) := by omega
    have i2 : (2 : Int) < (len : Int) := by omega
    have i3 : (3 : Int) < (len : Int) := by omega
    have i4 : (4 : Int) < (len : Int) := by omega
    have i5 : (5 : Int) < (len : Int) := by omega
    have i6 : (6 : Int) < (len : Int) := by omega
    have i7 : (7 : Int) < (len : Int) := by omega
    have i8 : (8 : Int) < (len : Int) := by omega
    have t0 := l0.toNat_lt; have t1 := l1.toNat_lt; have t2 := l2.toNat_lt; have t3 := l3.toNat_lt
    go_enter Try.func20, Try.ntmps20
    go_wp2_with fail
    generalize w.alloc (.cells #[.int .i64 0, .slice none 0 0] 36) = w0 at *
    have gt : ∀ i (hi : i < l.length), w0.cell? ⟨ba, off + i, none⟩ = some (.int .u8 (l[i].toNat : Int)) := fun i hi => by
      obtain ⟨b', off', e, c⟩ := H.out.below D0.out rfl i hi
      cases e
      exact c
    have HLT : Hid (9 ≤ l.length) := Lib.hid (by rw [← HLN.out]; omega)
    have c0 := gt 0 (by have := HLT.out; omega)
    have c1 := gt 1 (by have := HLT.out; omega)
    have c2 := gt 2 (by have := HLT.out; omega)
    have c3 := gt 3 (by have := HLT.out; omega)
    have c4 := gt 4 (by have := HLT.out; omega)
    have c5 := gt 5 (by have := HLT.out; omega)
    have c6 := gt 6 (by have := HLT.out; omega)
    have c7 := gt 7 (by have := HLT.out; omega)
    have c8 := gt 8 (by have := HLT.out; omega)
    clear gt
    simp only [HLR.out, List.getElem_cons_zero, List.getElem_cons_succ] at c0 c1 c2 c3 c4 c5 c6 c7 c8
    rw [Nat.add_zero] at c0
    go_quiet (fail)
    rw [or4_i64 l0 l1 l2 l3]
    have hn32 := n4_lt l0 l1 l2 l3
    have HFB : Hid (begF l = if 16777216 < n4 l0 l1 l2 l3 then (0, [], 0, 141) else if rest.length < n4 l0 l1 l2 l3 then (0, [], 0, 140) else if (Crc.sum ([k, l0, l1, l2, l3] ++ rest.take (n4 l0 l1 l2 l3))).toNat ≠ n4 s0 s1 s2 s3 then (0, [], 0, 141) else (k.toNat, rest.take (n4 l0 l1 l2 l3), 9 + n4 l0 l1 l2 l3, 0)) := Lib.hid (by rw [HLR.out]; rfl)
    generalize n4 l0 l1 l2 l3 = n at *
    have D1 : Hid (Below w.heap.size w (w0.drewN nq)) := Lib.hid (below_drews D0.out nq)
    have HX1 : Hid ((w0.drewN nq).heap[w.heap.size]? = some (.cells #[.int .i64 0, .slice none 0 0] 36 (0, 0))) := Lib.hid HX.out
    have HC5 : Hid ((w0.drewN nq).cell? ⟨ba, off, none⟩ = some (.int .u8 (k.toNat : Int)) ∧ (w0.drewN nq).cell? ⟨ba, off + 5, none⟩ = some (.int .u8 (s0.toNat : Int)) ∧ (w0.drewN nq).cell? ⟨ba, off + 6, none⟩ = some (.int .u8 (s1.toNat : Int)) ∧ (w0.drewN nq).cell? ⟨ba, off + 7, none⟩ = some (.int .u8 (s2.toNat : Int)) ∧ (w0.drewN nq).cell? ⟨ba, off + 8, none⟩ = some (.int .u8 (s3.toNat : Int))) := Lib.hid ⟨c0, c5, c6, c7, c8⟩
    clear c0 c1 c2 c3 c4 c5 c6 c7 c8 HX D0 t0 t1 t2 t3
    generalize w0.drewN nq = w1 at *
    have f0 : w1.frozen? ⟨w.heap.size, 0, none⟩ = false := frozen_of_row _ _ _ _ _ HX1.out
    have f1 : w1.frozen? ⟨w.heap.size, 1, none⟩ = false := frozen_of_row _ _ _ _ _ HX1.out
    obtain ⟨k0, k1⟩ := box2 HX1.out
    have hn9 : IntKind.i64.wrap (9 + (n : Int)) = 9 + (n : Int) := i64_wrap (by omega) (by omega)
    by_cases hbig : 16777216 < n
    · have hbig' : (16777216 : Int) < (n : Int) := by omega
      replace HFB : Hid (begF l = (0, [], 0, 141)) := Lib.hid (by rw [HFB.out, if_pos hbig])
      have HS2 := Lib.hid (set2 HX1.out (.int .i64 0) (.slice none 0 0))
      have HB2 := Lib.hid (below_set2 D1.out (Nat.le_refl _) (.int .i64 0) (.slice none 0 0))
      go_wp2_with fail
      clear f0 f1 k0 k1
      generalize (w1.setCell ⟨w.heap.size, 0, none⟩ (.int .i64 0)).setCell ⟨w.heap.size, 1, none⟩ (.slice none 0 0) = w9 at *
      obtain ⟨k0, k1⟩ := box2 HS2.out
      refine bodyPost_ret (v := .tuple #[.agg #[.int .i64 0, .slice none 0 0], .int .i64 0, .int .i64 141]) (by simp [results, Try.results20, go_sem, k0, k1]) rfl ?_
      rw [HFB.out]
      exact ⟨_, rfl, World.ownsRow_nil _ _ _ _, HB2.out⟩
    · have hbig' : ¬ (16777216 : Int) < (n : Int) := by omega
      by_cases hsh : rest.length < n
      · have hsh' : (len : Int) < 9 + (n : Int) := by have h1 := HLL.out; have h2 := HLN.out; simp at h1; omega
        replace HFB : Hid (begF l = (0, [], 0, 140)) := Lib.hid (by rw [HFB.out, if_neg hbig, if_pos hsh])
        have HS2 := Lib.hid (set2 HX1.out (.int .i64 0) (.slice none 0 0))
        have HB2 := Lib.hid (below_set2 D1.out (Nat.le_refl _) (.int .i64 0) (.slice none 0 0))
        go_wp2_with fail
        clear f0 f1 k0 k1
        generalize (w1.setCell ⟨w.heap.size, 0, none⟩ (.int .i64 0)).setCell ⟨w.heap.size, 1, none⟩ (.slice none 0 0) = w9 at *
        obtain ⟨k0, k1⟩ := box2 HS2.out
        refine bodyPost_ret (v := .tuple #[.agg #[.int .i64 0, .slice none 0 0], .int .i64 0, .int .i64 140]) (by simp [results, Try.results20, go_sem, k0, k1]) rfl ?_
        rw [HFB.out]
        exact ⟨_, rfl, World.ownsRow_nil _ _ _ _, HB2.out⟩
      · have hsh' : ¬ (len : Int) < 9 + (n : Int) := by have h1 := HLL.out; have h2 := HLN.out; simp at h1; omega
        have s0l := s0.toNat_lt; have s1l := s1.toNat_lt; have s2l := s2.toNat_lt; have s3l := s3.toNat_lt
        obtain ⟨c0, c5, c6, c7, c8⟩ := HC5.out
        go_wp2_with fail
        go_quiet (fail)
        rw [or4_u32 s0 s1 s2 s3]
        have hm32 := n4_lt s0 s1 s2 s3
        generalize n4 s0 s1 s2 s3 = m at *
        have HCK : Hid ((w1.drewN nq).cell? ⟨ba, off, none⟩ = some (.int .u8 (k.toNat : Int))) := Lib.hid c0
        have D2 : Hid (Below w.heap.size w (w1.drewN nq)) := Lib.hid (below_drews D1.out nq)
        have HX2 : Hid ((w1.drewN nq).heap[w.heap.size]? = some (.cells #[.int .i64 0, .slice none 0 0] 36 (0, 0))) := Lib.hid HX1.out
        clear c0 c5 c6 c7 c8 f0 f1 k0 k1 D1 HX1 HC5 s0l s1l s2l s3l
        generalize w1.drewN nq = w2 at *
        have hsl : ∀ w' : World, (Instr.slice 22 (.slice (some ⟨ba, off, none⟩) len cap) (some (.int .i64 9)) (some (.int .i64 (9 + (n : Int)))) none).run Try.prog w' = .ok (.slice (subAddr (some ⟨ba, off, none⟩) cap 9) n (cap - 9)) w' := fun w' =>
          run_sub w' 22 5 Try.underlying22 (fun w => by kernel_rfl) _ _ cap 9 n _ rfl (by omega)
        have hi5 : (5 : Int) ≤ (cap : Int) := by omega
        obtain ⟨x, hx⟩ : ∃ x, Crc.sum [l.take 5, (l.drop 9).take n].flatten = x := ⟨_, rfl⟩
        have HXX := Lib.hid hx
        have HXS : Hid (Crc.sum ([k, l0, l1, l2, l3] ++ rest.take n) = x) := Lib.hid (by rw [← hx, HLR.out]; simp)
        clear hx
        have HC : Hid (Chain [w2, w] w2) := Lib.hid (((Chain.one w).next D2.out trivial).push (Below.refl _ _))
        have HT5 : Hid ((l.take 5).length = 5) := Lib.hid (by have := HLT.out; simp; omega)
        have HTn : Hid (((l.drop 9).take n).length = n) := Lib.hid (by have h1 := HLN.out; simp; omega)
        have hx32 : (x.toNat : Int) < 4294967296 := by have := x.isLt; omega
        by_cases hxm : x.toNat = m
        · have hxm' : ((x.toNat : Int) != (m : Int)) = false := by simp [hxm]
          replace HFB : Hid (begF l = (k.toNat, rest.take n, 9 + n, 0)) := Lib.hid (by rw [HFB.out, if_neg hbig, if_neg hsh, if_neg (by rw [HXS.out]; simp [hxm])])
          clear hxm
          go_wp2_with fail
          refine wp_region_noPanic ?_
          refine wp_region_held_drew (S := fun w' => Below w2.heap.size w2 w') (by kernel_rfl) (Below.refl _ _).drew (fun hS => ?_)
          refine wpAnyH_take (i := 0) (oi := ⟨some 66, _, _, _, _, _⟩) (v := ?_) rfl (by kernel_rfl) (by kernel_rfl) (by kernel_rfl) (fun _ _ _ h => h) (Or.inl ⟨by rfl, ?_⟩) hS ?_
          rotate_left 1
          · intro w' hB; skip; (go_simp <;> with_reducible rfl)
          try simp only [Act.put, List.setIfInBounds_toArray, List.set_cons_zero, List.set_cons_succ]
          refine wpAnyH_take (i := 1) (oi := ⟨some 67, _, _, _, _, _⟩) (v := ?_) rfl (by kernel_rfl) (by kernel_rfl) (by kernel_rfl) (fun _ _ _ h => h) (Or.inl ⟨by rfl, ?_⟩) hS ?_
          rotate_left 1
          · intro w' hB; skip; (go_simp <;> with_reducible rfl)
          try simp only [Act.put, List.setIfInBounds_toArray, List.set_cons_zero, List.set_cons_succ]
          refine wpAnyH_take (i := 2) (oi := ⟨some 68, _, _, _, _, _⟩) (v := ?_) rfl (by kernel_rfl) (by kernel_rfl) (by kernel_rfl) (fun _ _ _ h => h) (Or.inl ⟨by rfl, ?_⟩) hS ?_
          rotate_left 1
          · intro w' hB; skip; (go_simp <;> with_reducible rfl)
          try simp only [Act.put, List.setIfInBounds_toArray, List.set_cons_zero, List.set_cons_succ]
          refine wpAnyH_take (i := 3) (oi := ⟨some 69, _, _, _, _, _⟩) (v := ?_) rfl (by kernel_rfl) (by kernel_rfl) (by kernel_rfl) (fun _ _ _ h => h) (Or.inl ⟨by rfl, ?_⟩) hS ?_
          rotate_left 1
          · intro w' hB; skip; (go_simp <;> with_reducible rfl)
          try simp only [Act.put, List.setIfInBounds_toArray, List.set_cons_zero, List.set_cons_succ]
          refine wpAnyH_take (i := 4) (oi := ⟨some 70, _, _, _, _, _⟩) (v := ?_) rfl (by kernel_rfl) (by kernel_rfl) (by kernel_rfl) (fun _ _ _ h => h) (Or.inl ⟨by rfl, ?_⟩) hS ?_
          rotate_left 1
          · intro w' hB; skip; (go_simp <;> with_reducible rfl)
          try simp only [Act.put, List.setIfInBounds_toArray, List.set_cons_zero, List.set_cons_succ]
          refine wpAnyH_take (i := 5) (oi := ⟨some 71, _, _, _, _, _⟩) (v := ?_) rfl (by kernel_rfl) (by kernel_rfl) (by kernel_rfl) (fun _ _ _ h => h) (Or.inl ⟨by rfl, ?_⟩) hS ?_
          rotate_left 1
          · intro w' hB; skip; (go_simp <;> with_reducible rfl)
          try simp only [Act.put, List.setIfInBounds_toArray, List.set_cons_zero, List.set_cons_succ]
          refine wpAnyH_take (i := 8) (oi := ⟨some 74, _, _, _, _, _⟩) (v := ?_) rfl (by kernel_rfl) (by kernel_rfl) (by kernel_rfl) (fun _ _ _ h => h) (Or.inl ⟨by rfl, ?_⟩) hS ?_
          rotate_left 1
          · intro w' hB; skip; (go_simp <;> with_reducible rfl)
          try simp only [Act.put, List.setIfInBounds_toArray, List.set_cons_zero, List.set_cons_succ]
          refine wpAnyH_ready (rs := [6]) (by kernel_rfl) (by simp) (AllReadyH.cons (o := ⟨some 72, _, _, _, _, _⟩) rfl (fun K hK => ?_) AllReadyH.nil)
          go_simp
          refine hK.out _ _ (hS.alloc hS.size _) (fun _ => ?_)
          clear hK K
          refine wpAnyH_made hS ?_
          rintro w3 hw hB
          clear hS
          have hS := Below.refl w3.heap.size w3
          replace HC := Lib.hid (HC.out.push hB)
          have HJ := Lib.hid (lists2 (l1 := l.take 5) (l2 := (l.drop 9).take n) hw HT5.out.symm HTn.out.symm (by decide) (by omega) ((H.out.take 5).below (HC.out.to w (by simp)) rfl) ((H.out.sub cap 9 n (by have := HLL.out; simp at this; omega) (by have := HLN.out; omega)).below (HC.out.to w (by simp)) rfl))
          clear hw hB
          try simp only [Act.put, List.setIfInBounds_toArray, List.set_cons_zero, List.set_cons_succ]
          refine wpAnyH_ready (rs := [7]) (by kernel_rfl) (by simp) (AllReadyH.cons (o := ⟨some 73, _, _, _, _, _⟩) rfl (fun K hK => ?_) AllReadyH.nil)
          go_simp
          refine (crc_Sum _ _ _ _ _ HJ.out rfl (by simp)).mono ?_
          rintro e w4 ⟨rfl, hb⟩
          refine hK.out _ _ (hS.trans (hb.mono hS.size)) (fun _ => ?_)
          clear hK K
          have hB := hS.trans (hb.mono hS.size)
          refine wpAnyH_now hB ?_
          clear hS
          have hS := Below.refl w4.heap.size w4
          replace HC := Lib.hid (HC.out.push hB)
          rw [HXX.out]
          clear hB hb
          try simp only [Act.put, List.setIfInBounds_toArray, List.set_cons_zero, List.set_cons_succ]
          refine wpAnyH_take (i := 9) (oi := ⟨some 75, _, _, _, _, _⟩) (v := ?_) rfl (by kernel_rfl) (by kernel_rfl) (by kernel_rfl) (fun _ _ _ h => h) (Or.inl ⟨by rfl, ?_⟩) hS ?_
          rotate_left 1
          · intro w' hB; skip; (go_simp <;> with_reducible rfl)
          try simp only [Act.put, List.setIfInBounds_toArray, List.set_cons_zero, List.set_cons_succ]
          refine wpAnyH_done (by kernel_rfl) (NoPanic.normal ?_) _
          have HX4 : Hid (w4.heap[w.heap.size]? = some (.cells #[.int .i64 0, .slice none 0 0] 36 (0, 0))) := Lib.hid (boxStays HX2.out (HC.out.to w2 (by simp)))
          have D4 := Lib.hid (HC.out.to w (by simp))
          have HZB := Lib.hid D4.out.size
          have HK4 : Hid (w4.cell? ⟨ba, off, none⟩ = some (.int .u8 (k.toNat : Int))) := Lib.hid (((HC.out.to w2 (by simp)).cell (p := ⟨ba, off, none⟩) (cell_lt HCK.out)).trans HCK.out)
          have HBA : Hid (ba < w.heap.size) := Lib.hid (by obtain ⟨b9, o9, e9, f9⟩ := H.out 0 (by have := HLL.out; simp at this; omega); cases e9; exact cell_lt f9)
          have HSRC : Hid (BytesAt w4 (subAddr (some ⟨ba, off, none⟩) cap 9) (rest.take n)) := Lib.hid (by
            have := (H.out.sub cap 9 n (by have := HLL.out; simp at this; omega) (by have := HLN.out; omega)).below D4.out rfl
            rw [HLR.out] at this
            exact this)
          have HTr : Hid ((rest.take n).length = n) := Lib.hid (by simp; omega)
          have i0 : 0 < len := by omega
          have tk := k.toNat_lt
          have hkw : IntKind.i64.wrap (k.toNat : Int) = (k.toNat : Int) := i64_wrap (by omega) (by omega)
          clear hS HC
          go_wp2_with fail
          refine wp_region_noPanic ?_
          refine wp_region_held_drew (S := fun w' => Below w.heap.size w4 w') (by kernel_rfl) (Below.refl _ _).drew (fun hS => ?_)
          refine wpAnyH_take (i := 0) (oi := ⟨some 77, _, _, _, _, _⟩) (v := ?_) rfl (by kernel_rfl) (by kernel_rfl) (by kernel_rfl) (fun _ _ _ h => h) (Or.inl ⟨by rfl, ?_⟩) hS ?_
          rotate_left 1
          · intro w' hB; have q0 := (hB.cell (p := ⟨ba, off, none⟩) HBA.out).trans HK4.out; (go_simp <;> with_reducible rfl)
          try simp only [Act.put, List.setIfInBounds_toArray, List.set_cons_zero, List.set_cons_succ]
          refine wpAnyH_take (i := 1) (oi := ⟨some 78, _, _, _, _, _⟩) (v := ?_) rfl (by kernel_rfl) (by kernel_rfl) (by kernel_rfl) (fun _ _ _ h => h) (Or.inl ⟨by rfl, ?_⟩) hS ?_
          rotate_left 1
          · intro w' hB; have q0 := (hB.cell (p := ⟨ba, off, none⟩) HBA.out).trans HK4.out; (go_simp <;> with_reducible rfl)
          try simp only [Act.put, List.setIfInBounds_toArray, List.set_cons_zero, List.set_cons_succ]
          refine wpAnyH_take (i := 2) (oi := ⟨some 79, _, _, _, _, _⟩) (v := ?_) rfl (by kernel_rfl) (by kernel_rfl) (by kernel_rfl) (fun _ _ _ h => h) (Or.inl ⟨by rfl, ?_⟩) hS ?_
          rotate_left 1
          · intro w' hB; have q0 := (hB.cell (p := ⟨ba, off, none⟩) HBA.out).trans HK4.out; (go_simp <;> with_reducible rfl)
          try simp only [Act.put, List.setIfInBounds_toArray, List.set_cons_zero, List.set_cons_succ]
          refine wpAnyH_take (i := 3) (oi := ⟨some 80, _, _, _, _, _⟩) (v := ?_) rfl (by kernel_rfl) (by kernel_rfl) (by kernel_rfl) (fun _ _ _ h => h) (Or.inl ⟨by rfl, ?_⟩) hS ?_
          rotate_left 1
          · intro w' hB; have q0 := (hB.cell (p := ⟨ba, off, none⟩) HBA.out).trans HK4.out; (go_simp <;> with_reducible rfl)
          try simp only [Act.put, List.setIfInBounds_toArray, List.set_cons_zero, List.set_cons_succ]
          refine wpAnyH_take (i := 5) (oi := ⟨some 82, _, _, _, _, _⟩) (v := ?_) rfl (by kernel_rfl) (by kernel_rfl) (by kernel_rfl) (fun _ _ _ h => h) (Or.inl ⟨by rfl, ?_⟩) hS ?_
          rotate_left 1
          · intro w' hB; have q0 := (hB.cell (p := ⟨ba, off, none⟩) HBA.out).trans HK4.out; (go_simp <;> with_reducible rfl)
          try simp only [Act.put, List.setIfInBounds_toArray, List.set_cons_zero, List.set_cons_succ]
          refine wpAnyH_take (i := 6) (oi := ⟨some 83, _, _, _, _, _⟩) (v := ?_) rfl (by kernel_rfl) (by kernel_rfl) (by kernel_rfl) (fun _ _ _ h => h) (Or.inl ⟨by rfl, ?_⟩) hS ?_
          rotate_left 1
          · intro w' hB; have q0 := (hB.cell (p := ⟨ba, off, none⟩) HBA.out).trans HK4.out; (go_simp <;> with_reducible rfl)
          try simp only [Act.put, List.setIfInBounds_toArray, List.set_cons_zero, List.set_cons_succ]
          refine wpAnyH_take (i := 7) (oi := ⟨some 84, _, _, _, _, _⟩) (v := ?_) rfl (by kernel_rfl) (by kernel_rfl) (by kernel_rfl) (fun _ _ _ h => h) (Or.inl ⟨by rfl, ?_⟩) hS ?_
          rotate_left 1
          · intro w' hB; have q0 := (hB.cell (p := ⟨ba, off, none⟩) HBA.out).trans HK4.out; (go_simp <;> with_reducible rfl)
          try simp only [Act.put, List.setIfInBounds_toArray, List.set_cons_zero, List.set_cons_succ]
          refine wpAnyH_take (i := 8) (oi := ⟨some 85, _, _, _, _, _⟩) (v := ?_) rfl (by kernel_rfl) (by kernel_rfl) (by kernel_rfl) (fun _ _ _ h => h) (Or.inl ⟨by rfl, ?_⟩) hS ?_
          rotate_left 1
          · intro w' hB; have q0 := (hB.cell (p := ⟨ba, off, none⟩) HBA.out).trans HK4.out; (go_simp <;> with_reducible rfl)
          try simp only [Act.put, List.setIfInBounds_toArray, List.set_cons_zero, List.set_cons_succ]
          refine wpAnyH_take (i := 11) (oi := ⟨some 88, _, _, _, _, _⟩) (v := ?_) rfl (by kernel_rfl) (by kernel_rfl) (by kernel_rfl) (fun _ _ _ h => h) (Or.inl ⟨by rfl, ?_⟩) hS ?_
          rotate_left 1
          · intro w' hB; have q0 := (hB.cell (p := ⟨ba, off, none⟩) HBA.out).trans HK4.out; (go_simp <;> with_reducible rfl)
          try simp only [Act.put, List.setIfInBounds_toArray, List.set_cons_zero, List.set_cons_succ]
          refine wpAnyH_take (i := 12) (oi := ⟨some 89, _, _, _, _, _⟩) (v := ?_) rfl (by kernel_rfl) (by kernel_rfl) (by kernel_rfl) (fun _ _ _ h => h) (Or.inl ⟨by rfl, ?_⟩) hS ?_
          rotate_left 1
          · intro w' hB; have q0 := (hB.cell (p := ⟨ba, off, none⟩) HBA.out).trans HK4.out; (go_simp <;> with_reducible rfl)
          try simp only [Act.put, List.setIfInBounds_toArray, List.set_cons_zero, List.set_cons_succ]
          refine wpAnyH_ready (rs := [4]) (by kernel_rfl) (by simp) (AllReadyH.cons (o := ⟨some 81, _, _, _, _, _⟩) rfl (fun K hK => ?_) AllReadyH.nil)
          go_simp
          refine hK.out _ _ (hS.alloc (Nat.le_trans HZB.out hS.size) _) (fun _ => ?_)
          clear hK K
          refine wpAnyH_madeK hS (Nat.le_trans HZB.out hS.size) ?_
          clear hS
          rintro w5 hw hS
          have HO5 : Hid (w5.ownsRow w4.heap.size 5 1 (.slice (some ⟨w4.heap.size, 0, none⟩) 0 0) ([] : List UInt8).length (bvs [])) := Lib.hid (by rw [hw]; exact own_new w4.drew w4.heap.size 5 [] (Nat.le_refl _) (by simp))
          have HX5 : Hid (w5.heap[w.heap.size]? = some (.cells #[.int .i64 0, .slice none 0 0] 36 (0, 0))) := Lib.hid (by rw [hw]; exact boxStays (W := w4.drew) HX4.out (below_new _ _))
          have HS5 : Hid (BytesAt w5 (subAddr (some ⟨ba, off, none⟩) cap 9) (rest.take n)) := Lib.hid (by rw [hw]; exact BytesAt.below (w := w4.drew) HSRC.out (below_new _ _) rfl)
          have HZ5 : Hid (w4.heap.size < w5.heap.size) := Lib.hid (by rw [hw]; simp)
          clear hw
          try simp only [Act.put, List.setIfInBounds_toArray, List.set_cons_zero, List.set_cons_succ]
          refine wpAnyH_ready (rs := [9]) (by kernel_rfl) (by simp) (AllReadyH.cons (o := ⟨some 86, _, _, _, _, _⟩) rfl (fun K hK => ?_) AllReadyH.nil)
          have HS6 := HS5.out.src Try.underlying22 (cap - 9)
          rw [HTr.out] at HS6
          refine step_appb rfl _ _ _ _ rfl w4.heap.size 5 byteT (.slice (some ⟨w4.heap.size, 0, none⟩) 0 0) [] rfl HO5.out (.slice (subAddr (some ⟨ba, off, none⟩) cap 9) n (cap - 9)) (rest.take n) rfl (by rw [HTr.out]; exact HS6) (by rw [HTr.out]; simp; omega) (Nat.le_of_lt HZ5.out) ?_
          intro v6 w6 hown hgr hb _
          refine hK.out _ _ (hS.trans (hb.mono HZB.out)) (fun _ => ?_)
          clear hK K
          replace hS := hS.trans (hb.mono HZB.out)
          have HX6 : Hid (w6.heap[w.heap.size]? = some (.cells #[.int .i64 0, .slice none 0 0] 36 (0, 0))) := Lib.hid ((hb.block _ (Nat.lt_of_lt_of_le (Array.getElem?_eq_some_iff.1 HX4.out).1 (Nat.le_refl _))).trans HX5.out)
          rw [List.nil_append, HTr.out] at hown
          obtain ⟨a6, c6, rfl, hc6, _⟩ := own_slice hown
          have HO6 := Lib.hid hown
          clear hown hgr hb hc6 HS6
          try simp only [Act.put, List.setIfInBounds_toArray, List.set_cons_zero, List.set_cons_succ]
          refine wpAnyH_take (i := 10) (oi := ⟨some 87, _, _, _, _, _⟩) (v := ?_) rfl (by kernel_rfl) (by kernel_rfl) (by kernel_rfl) (fun _ _ _ h => h) (Or.inl ⟨by rfl, ?_⟩) hS ?_
          rotate_left 1
          · intro w' hB; have q0 := (hB.cell (p := ⟨ba, off, none⟩) HBA.out).trans HK4.out; (go_simp <;> with_reducible rfl)
          try simp only [Act.put, List.setIfInBounds_toArray, List.set_cons_zero, List.set_cons_succ]
          refine wpAnyH_ready (rs := [13]) (by kernel_rfl) (by simp) (AllReadyH.cons (o := ⟨none, _, _, _, _, _⟩) rfl (fun K hK => ?_) AllReadyH.nil)
          obtain ⟨k0, k1⟩ := box2 HX6.out
          have f0 : w6.frozen? ⟨w.heap.size, 0, none⟩ = false := frozen_of_row _ _ _ _ _ HX6.out
          have f1 : w6.frozen? ⟨w.heap.size, 1, none⟩ = false := frozen_of_row _ _ _ _ _ HX6.out
          go_simp
          refine hK.out _ _ (below_set2 hS (Nat.le_refl _) _ _) (fun _ => ?_)
          clear hK K
          replace hS := below_set2 hS (Nat.le_refl _) (.int .i64 (k.toNat : Int)) (.slice a6 n c6)
          have HX7 := Lib.hid (set2 HX6.out (.int .i64 (k.toNat : Int)) (.slice a6 n c6))
          have HO7 := Lib.hid (own_grown (own_grown HO6.out (set_grown _ w.heap.size 0 (.int .i64 (k.toNat : Int))) (fun j hj e => by have := (HO6.out.lt j hj).1; cases e; have := (Array.getElem?_eq_some_iff.1 HX4.out).1; omega)) (set_grown _ w.heap.size 1 (.slice a6 n c6)) (fun j hj e => by have := (HO6.out.lt j hj).1; cases e; have := (Array.getElem?_eq_some_iff.1 HX4.out).1; omega))
          clear k0 k1 f0 f1
          generalize (w6.setCell ⟨w.heap.size, 0, none⟩ (.int .i64 (k.toNat : Int))).setCell ⟨w.heap.size, 1, none⟩ (.slice a6 n c6) = w7 at *
          try simp only [Act.put, List.setIfInBounds_toArray, List.set_cons_zero, List.set_cons_succ]
          refine wpAnyH_take (i := 14) (oi := ⟨some 3, _, _, _, _, _⟩) (v := ?_) rfl (by kernel_rfl) (by kernel_rfl) (by kernel_rfl) (fun _ _ _ h => h) (Or.inl ⟨by rfl, ?_⟩) hS ?_
          rotate_left 1
          · intro w' hB; have q0 := (hB.cell (p := ⟨ba, off, none⟩) HBA.out).trans HK4.out; (go_simp <;> with_reducible rfl)
          try simp only [Act.put, List.setIfInBounds_toArray, List.set_cons_zero, List.set_cons_succ]
          refine wpAnyH_take (i := 15) (oi := ⟨some 4, _, _, _, _, _⟩) (v := ?_) rfl (by kernel_rfl) (by kernel_rfl) (by kernel_rfl) (fun _ _ _ h => h) (Or.inl ⟨by rfl, ?_⟩) hS ?_
          rotate_left 1
          · intro w' hB; have q0 := (hB.cell (p := ⟨ba, off, none⟩) HBA.out).trans HK4.out; (go_simp <;> with_reducible rfl)
          try simp only [Act.put, List.setIfInBounds_toArray, List.set_cons_zero, List.set_cons_succ]
          refine wpAnyH_done (by kernel_rfl) (NoPanic.normal ?_) _
          have D7 := Lib.hid (D4.out.trans hS)
          clear hS
          go_wp2_with fail
          obtain ⟨k0, k1⟩ := box2 HX7.out
          refine bodyPost_ret (v := .tuple #[.agg #[.int .i64 (k.toNat : Int), .slice a6 n c6], .int .i64 (9 + (n : Int)), .int .i64 0]) (by simp [results, Try.results20, go_sem, k0, k1]) rfl ?_
          rw [HFB.out]
          refine ⟨.slice a6 n c6, by simp, ?_, D7.out⟩
          simp only
          rw [HTr.out]
          exact own_mono HO7.out HZB.out
        · have hxm' : ((x.toNat : Int) != (m : Int)) = true := by simp; omega
          replace HFB : Hid (begF l = (0, [], 0, 141)) := Lib.hid (by rw [HFB.out, if_neg hbig, if_neg hsh, if_pos (by rw [HXS.out]; exact hxm)])
          go_wp2_with fail
          refine wp_region_noPanic ?_
          refine wp_region_held_drew (S := fun w' => Below w2.heap.size w2 w') (by kernel_rfl) (Below.refl _ _).drew (fun hS => ?_)
          refine wpAnyH_take (i := 0) (oi := ⟨some 66, _, _, _, _, _⟩) (v := ?_) rfl (by kernel_rfl) (by kernel_rfl) (by kernel_rfl) (fun _ _ _ h => h) (Or.inl ⟨by rfl, ?_⟩) hS ?_
          rotate_left 1
          · intro w' hB; skip; (go_simp <;> with_reducible rfl)
          try simp only [Act.put, List.setIfInBounds_toArray, List.set_cons_zero, List.set_cons_succ]
          refine wpAnyH_take (i := 1) (oi := ⟨some 67, _, _, _, _, _⟩) (v := ?_) rfl (by kernel_rfl) (by kernel_rfl) (by kernel_rfl) (fun _ _ _ h => h) (Or.inl ⟨by rfl, ?_⟩) hS ?_
          rotate_left 1
          · intro w' hB; skip; (go_simp <;> with_reducible rfl)
          try simp only [Act.put, List.setIfInBounds_toArray, List.set_cons_zero, List.set_cons_succ]
          refine wpAnyH_take (i := 2) (oi := ⟨some 68, _, _, _, _, _⟩) (v := ?_) rfl (by kernel_rfl) (by kernel_rfl) (by kernel_rfl) (fun _ _ _ h => h) (Or.inl ⟨by rfl, ?_⟩) hS ?_
          rotate_left 1
          · intro w' hB; skip; (go_simp <;> with_reducible rfl)
          try simp only [Act.put, List.setIfInBounds_toArray, List.set_cons_zero, List.set_cons_succ]
          refine wpAnyH_take (i := 3) (oi := ⟨some 69, _, _, _, _, _⟩) (v := ?_) rfl (by kernel_rfl) (by kernel_rfl) (by kernel_rfl) (fun _ _ _ h => h) (Or.inl ⟨by rfl, ?_⟩) hS ?_
          rotate_left 1
          · intro w' hB; skip; (go_simp <;> with_reducible rfl)
          try simp only [Act.put, List.setIfInBounds_toArray, List.set_cons_zero, List.set_cons_succ]
          refine wpAnyH_take (i := 4) (oi := ⟨some 70, _, _, _, _, _⟩) (v := ?_) rfl (by kernel_rfl) (by kernel_rfl) (by kernel_rfl) (fun _ _ _ h => h) (Or.inl ⟨by rfl, ?_⟩) hS ?_
          rotate_left 1
          · intro w' hB; skip; (go_simp <;> with_reducible rfl)
          try simp only [Act.put, List.setIfInBounds_toArray, List.set_cons_zero, List.set_cons_succ]
          refine wpAnyH_take (i := 5) (oi := ⟨some 71, _, _, _, _, _⟩) (v := ?_) rfl (by kernel_rfl) (by kernel_rfl) (by kernel_rfl) (fun _ _ _ h => h) (Or.inl ⟨by rfl, ?_⟩) hS ?_
          rotate_left 1
          · intro w' hB; skip; (go_simp <;> with_reducible rfl)
          try simp only [Act.put, List.setIfInBounds_toArray, List.set_cons_zero, List.set_cons_succ]
          refine wpAnyH_take (i := 8) (oi := ⟨some 74, _, _, _, _, _⟩) (v := ?_) rfl (by kernel_rfl) (by kernel_rfl) (by kernel_rfl) (fun _ _ _ h => h) (Or.inl ⟨by rfl, ?_⟩) hS ?_
          rotate_left 1
          · intro w' hB; skip; (go_simp <;> with_reducible rfl)
          try simp only [Act.put, List.setIfInBounds_toArray, List.set_cons_zero, List.set_cons_succ]
          refine wpAnyH_ready (rs := [6]) (by kernel_rfl) (by simp) (AllReadyH.cons (o := ⟨some 72, _, _, _, _, _⟩) rfl (fun K hK => ?_) AllReadyH.nil)
          go_simp
          refine hK.out _ _ (hS.alloc hS.size _) (fun _ => ?_)
          clear hK K
          refine wpAnyH_made hS ?_
          rintro w3 hw hB
          clear hS
          have hS := Below.refl w3.heap.size w3
          replace HC := Lib.hid (HC.out.push hB)
          have HJ := Lib.hid (lists2 (l1 := l.take 5) (l2 := (l.drop 9).take n) hw HT5.out.symm HTn.out.symm (by decide) (by omega) ((H.out.take 5).below (HC.out.to w (by simp)) rfl) ((H.out.sub cap 9 n (by have := HLL.out; simp at this; omega) (by have := HLN.out; omega)).below (HC.out.to w (by simp)) rfl))
          clear hw hB
          try simp only [Act.put, List.setIfInBounds_toArray, List.set_cons_zero, List.set_cons_succ]
          refine wpAnyH_ready (rs := [7]) (by kernel_rfl) (by simp) (AllReadyH.cons (o := ⟨some 73, _, _, _, _, _⟩) rfl (fun K hK => ?_) AllReadyH.nil)
          go_simp
          refine (crc_Sum _ _ _ _ _ HJ.out rfl (by simp)).mono ?_
          rintro e w4 ⟨rfl, hb⟩
          refine hK.out _ _ (hS.trans (hb.mono hS.size)) (fun _ => ?_)
          clear hK K
          have hB := hS.trans (hb.mono hS.size)
          refine wpAnyH_now hB ?_
          clear hS
          have hS := Below.refl w4.heap.size w4
          replace HC := Lib.hid (HC.out.push hB)
          rw [HXX.out]
          clear hB hb
          try simp only [Act.put, List.setIfInBounds_toArray, List.set_cons_zero, List.set_cons_succ]
          refine wpAnyH_take (i := 9) (oi := ⟨some 75, _, _, _, _, _⟩) (v := ?_) rfl (by kernel_rfl) (by kernel_rfl) (by kernel_rfl) (fun _ _ _ h => h) (Or.inl ⟨by rfl, ?_⟩) hS ?_
          rotate_left 1
          · intro w' hB; skip; (go_simp <;> with_reducible rfl)
          try simp only [Act.put, List.setIfInBounds_toArray, List.set_cons_zero, List.set_cons_succ]
          refine wpAnyH_done (by kernel_rfl) (NoPanic.normal ?_) _
          have HX4 : Hid (w4.heap[w.heap.size]? = some (.cells #[.int .i64 0, .slice none 0 0] 36 (0, 0))) := Lib.hid (boxStays HX2.out (HC.out.to w2 (by simp)))
          have D4 := Lib.hid (HC.out.to w (by simp))
          clear hS HC
          have f0 : w4.frozen? ⟨w.heap.size, 0, none⟩ = false := frozen_of_row _ _ _ _ _ HX4.out
          have f1 : w4.frozen? ⟨w.heap.size, 1, none⟩ = false := frozen_of_row _ _ _ _ _ HX4.out
          obtain ⟨k0, k1⟩ := box2 HX4.out
          have HS2 := Lib.hid (set2 HX4.out (.int .i64 0) (.slice none 0 0))
          have HB2 := Lib.hid (below_set2 D4.out (Nat.le_refl _) (.int .i64 0) (.slice none 0 0))
          go_wp2_with fail
          clear f0 f1 k0 k1
          generalize (w4.setCell ⟨w.heap.size, 0, none⟩ (.int .i64 0)).setCell ⟨w.heap.size, 1, none⟩ (.slice none 0 0) = w9 at *
          obtain ⟨k0, k1⟩ := box2 HS2.out
          refine bodyPost_ret (v := .tuple #[.agg #[.int .i64 0, .slice none 0 0], .int .i64 0, .int .i64 141]) (by simp [results, Try.results20, go_sem, k0, k1]) rfl ?_
          rw [HFB.out]
          exact ⟨_, rfl, World.ownsRow_nil _ _ _ _, HB2.out⟩
end Go.Proofs.Ytpbjhfajekfjeaa

