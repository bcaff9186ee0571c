
/- Walks: the frame with which bytes begin, as the reference has it. -/
import Derived.Test.YtpbjhfajekfjeaaFrameR1
namespace Go.Proofs.Ytpbjhfajekfjeaa
open Go.RowKit Frm
theorem Frm.n4_four (m : Nat) (hm : m < 4294967296) : n4 (b8 (m / 16777216)) (b8 (m / 65536)) (b8 (m / 256)) (b8 m) = m := by
  simp only [n4, b8, UInt8.toNat_ofNat']; omega
theorem Frm.b8_of (n : Nat) (a : UInt8) (h : n % 256 = a.toNat) : b8 n = a := by
  apply UInt8.toNat_inj.1
  rw [b8, UInt8.toNat_ofNat']; omega
theorem Frm.four_n4 (a b c d : UInt8) : four (n4 a b c d) = [a, b, c, d] := by
  have := a.toNat_lt; have := b.toNat_lt; have := c.toNat_lt; have := d.toNat_lt
  simp only [four]
  rw [b8_of (n4 a b c d / 16777216) a (by unfold n4; omega), b8_of (n4 a b c d / 65536) b (by unfold n4; omega), b8_of (n4 a b c d / 256) c (by unfold n4; omega), b8_of (n4 a b c d) d (by unfold n4; omega)]
theorem Frm.hd_eq (k : UInt8) (l0 l1 l2 l3 : UInt8) : hd k.toNat (n4 l0 l1 l2 l3) = [k, l0, l1, l2, l3] := by
  show b8 k.toNat :: four (n4 l0 l1 l2 l3) = _
  rw [four_n4, b8_of k.toNat k (by have := k.toNat_lt; omega)]
theorem Frm.frame_same (k l0 l1 l2 l3 s0 s1 s2 s3 : UInt8) (rest : List UInt8) (hn : n4 l0 l1 l2 l3 ≤ rest.length) :
    frameF k.toNat (rest.take (n4 l0 l1 l2 l3)) = (k :: l0 :: l1 :: l2 :: l3 :: s0 :: s1 :: s2 :: s3 :: rest).take (9 + n4 l0 l1 l2 l3) ↔ (Crc.sum ([k, l0, l1, l2, l3] ++ rest.take (n4 l0 l1 l2 l3))).toNat = n4 s0 s1 s2 s3 := by
  have hl : (rest.take (n4 l0 l1 l2 l3)).length = n4 l0 l1 l2 l3 := by simp; omega
  unfold frameF
  rw [hl, hd_eq]
  generalize Crc.sum ([k, l0, l1, l2, l3] ++ rest.take (n4 l0 l1 l2 l3)) = x
  have hx := x.isLt
  have ht : (k :: l0 :: l1 :: l2 :: l3 :: s0 :: s1 :: s2 :: s3 :: rest).take (9 + n4 l0 l1 l2 l3) = [k, l0, l1, l2, l3] ++ [s0, s1, s2, s3] ++ rest.take (n4 l0 l1 l2 l3) := by
    rw [Nat.add_comm]; rfl
  rw [ht]
  have hb : be4 x = four x.toNat := rfl
  rw [hb]
  constructor
  · intro h
    have h1 := List.append_cancel_right h
    have h2 := List.append_cancel_left h1
    have h3 := n4_four x.toNat (by omega)
    simp only [four, List.cons.injEq, and_true] at h2
    obtain ⟨q0, q1, q2, q3⟩ := h2
    rw [q0, q1, q2, q3] at h3
    exact h3.symm
  · intro h
    rw [h, four_n4]
theorem Frm.add4 (a b c d : UInt8) : (a.toNat : Int) * 16777216 + (b.toNat : Int) * 65536 + (c.toNat : Int) * 256 + (d.toNat : Int) = ((n4 a b c d : Nat) : Int) := by
  simp only [n4]; omega
theorem run_upto {P : Program} (w : World) (t e : TypeId) (ht : P.underlying t = some (.slice e)) (hz : ∀ w, (Go.sizeOf e).run P w = .ok 1 w) (a : Option Addr) (len cap m : Nat) (h : Int) (hh : h = (m : Int)) (hc : m ≤ cap) :
    (Instr.slice t (.slice a len cap) none (some (.int .i64 h)) none).run P w = .ok (.slice a m cap) w := by
  have ht' : P.underlying t = some (.slice (P.elem t)) := by simp [Program.elem, ht]
  have he : P.elem t = e := by simp [Program.elem, ht]
  subst hh
  rw [run_slice_h w t _ _ _ ht' .i64 _ (by omega) (by omega), he, hz]
  have hadd : ∀ x : Addr, x.add 0 = x := fun x => by cases x with | mk b o i => cases i <;> simp [Addr.add]
  cases a with
  | none => simp [Result.andThen, sliced]
  | some x => simp [Result.andThen, sliced, hadd]
theorem ref4P (k : Nat) (body : List UInt8) (a : Option Addr) (n cap : Nat) (w : World) (hk : k ≤ 255) (hn : body.length = n) (hb : BytesAt w a body) (hl : body.length ≤ 16777216) :
    Calls Try.prog 15 #[.int .i64 (k : Int), .slice a n cap] w fun e w' => ∃ v, e = .returned v ∧ w'.ownsRow w.heap.size 5 1 v (frameF k body).length (bvs (frameF k body)) ∧ Below w.heap.size w w' := by
  subst hn; exact ref4_Put k body a cap w hk hb hl
set_option maxRecDepth 20000 in
set_option maxHeartbeats 1000000 in
theorem ref4_Begin (l : List UInt8) (a : Option Addr) (cap : Nat) (w : World) (h : BytesAt w a l) (hcap : l.length ≤ cap) (hl : l.length ≤ 1048576) :
    Calls Try.prog 18 #[.slice a l.length cap] w fun e w' =>
      ∃ v, e = .returned (.tuple #[.agg #[.int .i64 ((begF l).1 : Int), v], .int .i64 ((begF l).2.2.1 : Int), .int .i64 ((begF l).2.2.2 : Int)]) ∧ w'.ownsRow w.heap.size 5 1 v (begF l).2.1.length (bvs (begF l).2.1) ∧ Below w.heap.size w w' := by
  have H := Lib.hid h; clear h
  by_cases h9 : l.length < 9
  · have HF := Lib.hid (begF_few l h9)
    have h9' : (l.length : Int) < 9 := by omega
    go_enter Try.func18, Try.ntmps18
    go_wp2_with fail
    refine bodyPost_ret (v := .tuple #[.agg #[.int .i64 0, .slice none 0 0], .int .i64 0, .int .i64 140]) (by simp [results, Try.results18, go_sem]) rfl ?_
    rw [HF.out]
    exact ⟨_, rfl, World.ownsRow_nil _ _ _ _, below_new _ _⟩
  · obtain ⟨k, l0, l1, l2, l3, s0, s1, s2, s3, rest, hlr⟩ := nine l (by omega)
    have HLR := Lib.hid hlr; clear hlr
    have h9' : ¬ (l.length : Int) < 9 := by omega
    obtain ⟨ba, off, had, _⟩ := H.out 0 (by omega)
    subst had
    have D0 := Lib.hid (below_new w (.cells #[.int .i64 0, .slice none 0 0] 36))
    have HX := Lib.hid (heap_alloc_new w (.cells #[.int .i64 0, .slice none 0 0] 36))
    have HLL := Lib.hid (congrArg List.length HLR.out)
    obtain ⟨len, hlen⟩ : ∃ len, len = l.length := ⟨_, rfl⟩
    rw [← hlen] at h9 h9' hcap hl ⊢
    have HLN := Lib.hid hlen; clear hlen
    have i1 : (1 : Int) < (len : Int) := by omega
    have i2 : (2 : Int) < (len : Int) := by omega
    have i3 : (3 : Int) < (len : Int) := by omega
    have i4 : (4 : Int) < (len : Int) := by omega
    have i5 : (5 : Int) < (len : Int) := by omega
    have i6 : (6 : Int) < (len : Int) := by omega
    have i7 : (7 : Int) < (len : Int) := by omega
    have i8 : (8 : Int) < (len : Int) := by omega
    have t0 := l0.toNat_lt; have t1 := l1.toNat_lt; have t2 := l2.toNat_lt; have t3 := l3.toNat_lt
    go_enter Try.func18, Try.ntmps18
    go_wp2_with fail
    generalize w.alloc (.cells #[.int .i64 0, .slice none 0 0] 36) = w0 at *
    have gt : ∀ i (hi : i < l.length), w0.cell? ⟨ba, off + i, none⟩ = some (.int .u8 (l[i].toNat : Int)) := fun i hi => by
      obtain ⟨b', off', e, c⟩ := H.out.below D0.out rfl i hi
      cases e
      exact c
    have HLT : Hid (9 ≤ l.length) := Lib.hid (by rw [← HLN.out]; omega)
    have c0 := gt 0 (by have := HLT.out; omega)
    have c1 := gt 1 (by have := HLT.out; omega)
    have c2 := gt 2 (by have := HLT.out; omega)
    have c3 := gt 3 (by have := HLT.out; omega)
    have c4 := gt 4 (by have := HLT.out; omega)
    have c5 := gt 5 (by have := HLT.out; omega)
    have c6 := gt 6 (by have := HLT.out; omega)
    have c7 := gt 7 (by have := HLT.out; omega)
    have c8 := gt 8 (by have := HLT.out; omega)
    clear gt
    simp only [HLR.out, List.getElem_cons_zero, List.getElem_cons_succ] at c0 c1 c2 c3 c4 c5 c6 c7 c8
    rw [Nat.add_zero] at c0
    have hw1 : IntKind.i64.wrap ((l0.toNat : Int) * 16777216 + (l1.toNat : Int) * 65536) = (l0.toNat : Int) * 16777216 + (l1.toNat : Int) * 65536 := i64_wrap (by omega) (by omega)
    have hw2 : IntKind.i64.wrap ((l0.toNat : Int) * 16777216 + (l1.toNat : Int) * 65536 + (l2.toNat : Int) * 256) = (l0.toNat : Int) * 16777216 + (l1.toNat : Int) * 65536 + (l2.toNat : Int) * 256 := i64_wrap (by omega) (by omega)
    have hw3 : IntKind.i64.wrap ((l0.toNat : Int) * 16777216 + (l1.toNat : Int) * 65536 + (l2.toNat : Int) * 256 + (l3.toNat : Int)) = (l0.toNat : Int) * 16777216 + (l1.toNat : Int) * 65536 + (l2.toNat : Int) * 256 + (l3.toNat : Int) := i64_wrap (by omega) (by omega)
    go_quiet (fail)
    clear hw1 hw2 hw3
    rw [add4 l0 l1 l2 l3]
    have hn32 := n4_lt l0 l1 l2 l3
    have HFB : Hid (begF l = if 16777216 < n4 l0 l1 l2 l3 then (0, [], 0, 141) else if rest.length < n4 l0 l1 l2 l3 then (0, [], 0, 140) else if (Crc.sum ([k, l0, l1, l2, l3] ++ rest.take (n4 l0 l1 l2 l3))).toNat ≠ n4 s0 s1 s2 s3 then (0, [], 0, 141) else (k.toNat, rest.take (n4 l0 l1 l2 l3), 9 + n4 l0 l1 l2 l3, 0)) := Lib.hid (by rw [HLR.out]; rfl)
    have HFS : Hid (n4 l0 l1 l2 l3 ≤ rest.length → (frameF k.toNat (rest.take (n4 l0 l1 l2 l3)) = l.take (9 + n4 l0 l1 l2 l3) ↔ (Crc.sum ([k, l0, l1, l2, l3] ++ rest.take (n4 l0 l1 l2 l3))).toNat = n4 s0 s1 s2 s3)) := Lib.hid (fun hn => by rw [HLR.out]; exact frame_same k l0 l1 l2 l3 s0 s1 s2 s3 rest hn)
    generalize n4 l0 l1 l2 l3 = n at *
    have D1 : Hid (Below w.heap.size w (w0.drewN nq)) := Lib.hid (below_drews D0.out nq)
    have HX1 : Hid ((w0.drewN nq).heap[w.heap.size]? = some (.cells #[.int .i64 0, .slice none 0 0] 36 (0, 0))) := Lib.hid HX.out
    have HC5 : Hid ((w0.drewN nq).cell? ⟨ba, off, none⟩ = some (.int .u8 (k.toNat : Int)) ∧ (w0.drewN nq).cell? ⟨ba, off + 5, none⟩ = some (.int .u8 (s0.toNat : Int)) ∧ (w0.drewN nq).cell? ⟨ba, off + 6, none⟩ = some (.int .u8 (s1.toNat : Int)) ∧ (w0.drewN nq).cell? ⟨ba, off + 7, none⟩ = some (.int .u8 (s2.toNat : Int)) ∧ (w0.drewN nq).cell? ⟨ba, off + 8, none⟩ = some (.int .u8 (s3.toNat : Int))) := Lib.hid ⟨c0, c5, c6, c7, c8⟩
    clear c0 c1 c2 c3 c4 c5 c6 c7 c8 HX D0 t0 t1 t2 t3
    generalize w0.drewN nq = w1 at *
    have f0 : w1.frozen? ⟨w.heap.size, 0, none⟩ = false := frozen_of_row _ _ _ _ _ HX1.out
    have f1 : w1.frozen? ⟨w.heap.size, 1, none⟩ = false := frozen_of_row _ _ _ _ _ HX1.out
    obtain ⟨k0, k1⟩ := box2 HX1.out
    have hn9 : IntKind.i64.wrap (9 + (n : Int)) = 9 + (n : Int) := i64_wrap (by omega) (by omega)
    by_cases hbig : 16777216 < n
    · have hbig' : (16777216 : Int) < (n : Int) := by omega
      replace HFB : Hid (begF l = (0, [], 0, 141)) := Lib.hid (by rw [HFB.out, if_pos hbig])
      have HS2 := Lib.hid (set2 HX1.out (.int .i64 0) (.slice none 0 0))
      have HB2 := Lib.hid (below_set2 D1.out (Nat.le_refl _) (.int .i64 0) (.slice none 0 0))
      go_wp2_with fail
      clear f0 f1 k0 k1
      generalize (w1.setCell ⟨w.heap.size, 0, none⟩ (.int .i64 0)).setCell ⟨w.heap.size, 1, none⟩ (.slice none 0 0) = w9 at *
      obtain ⟨k0, k1⟩ := box2 HS2.out
      refine bodyPost_ret (v := .tuple #[.agg #[.int .i64 0, .slice none 0 0], .int .i64 0, .int .i64 141]) (by simp [results, Try.results18, go_sem, k0, k1]) rfl ?_
      rw [HFB.out]
      exact ⟨_, rfl, World.ownsRow_nil _ _ _ _, HB2.out⟩
    · have hbig' : ¬ (16777216 : Int) < (n : Int) := by omega
      by_cases hsh : rest.length < n
      · have hsh' : (len : Int) < 9 + (n : Int) := by have h1 := HLL.out; have h2 := HLN.out; simp at h1; omega
        replace HFB : Hid (begF l = (0, [], 0, 140)) := Lib.hid (by rw [HFB.out, if_neg hbig, if_pos hsh])
        have HS2 := Lib.hid (set2 HX1.out (.int .i64 0) (.slice none 0 0))
        have HB2 := Lib.hid (below_set2 D1.out (Nat.le_refl _) (.int .i64 0) (.slice none 0 0))
        go_wp2_with fail
        clear f0 f1 k0 k1
        generalize (w1.setCell ⟨w.heap.size, 0, none⟩ (.int .i64 0)).setCell ⟨w.heap.size, 1, none⟩ (.slice none 0 0) = w9 at *
        obtain ⟨k0, k1⟩ := box2 HS2.out
        refine bodyPost_ret (v := .tuple #[.agg #[.int .i64 0, .slice none 0 0], .int .i64 0, .int .i64 140]) (by simp [results, Try.results18, go_sem, k0, k1]) rfl ?_
        rw [HFB.out]
        exact ⟨_, rfl, World.ownsRow_nil _ _ _ _, HB2.out⟩
      · have hsh' : ¬ (len : Int) < 9 + (n : Int) := by have h1 := HLL.out; have h2 := HLN.out; simp at h1; omega
        have hcw : 9 + n ≤ cap := by have h1 := HLL.out; have h2 := HLN.out; simp at h1; omega
        have hsl : ∀ w' : World, (Instr.slice 22 (.slice (some ⟨ba, off, none⟩) len cap) (some (.int .i64 9)) (some (.int .i64 (9 + (n : Int)))) none).run Try.prog w' = .ok (.slice (subAddr (some ⟨ba, off, none⟩) cap 9) n (cap - 9)) w' := fun w' =>
          run_sub w' 22 5 Try.underlying22 (fun w => by kernel_rfl) _ _ cap 9 n _ rfl (by omega)
        have HTr : Hid ((rest.take n).length = n) := Lib.hid (by simp; omega)
        have BT := Lib.hid byteT
        have HSRC : Hid (BytesAt w1 (subAddr (some ⟨ba, off, none⟩) cap 9) (rest.take n)) := Lib.hid (by
          have := (H.out.sub cap 9 n (by have := HLL.out; simp at this; omega) (by have := HLN.out; omega)).below D1.out rfl
          rw [HLR.out] at this
          exact this)
        have HS0 : Hid (Src Try.prog 1 22 (.slice (subAddr (some ⟨ba, off, none⟩) cap 9) n (cap - 9)) (rest.take n).length (bvs (rest.take n)) w1) := Lib.hid (by
          have := HSRC.out.src Try.underlying22 (cap - 9)
          rw [HTr.out] at this ⊢
          exact this)
        have HKK : Hid (w1.cell? ⟨ba, off, none⟩ = some (.int .u8 (k.toNat : Int))) := Lib.hid HC5.out.1
        clear k0 k1 f0 f1 HC5
        go_wp2_with (at_builtin; refine wpList_appb rfl _ _ 22 22 rfl w1.heap.size 5 BT.out (.slice none 0 0) [] rfl (World.ownsRow_nil _ _ _ _) (.slice (subAddr (some ⟨ba, off, none⟩) cap 9) n (cap - 9)) (rest.take n) rfl HS0.out (by rw [HTr.out]; simp; omega) (Nat.le_refl _) ?_; intro v2 w2 hown _ hb _; rw [List.nil_append, HTr.out] at hown; obtain ⟨a2, c2, rfl⟩ := own_shape hown; have O2 := Lib.hid hown; have E2 := Lib.hid hb; clear hown hb)
        have HX2 : Hid (w2.heap[w.heap.size]? = some (.cells #[.int .i64 0, .slice none 0 0] 36 (0, 0))) := Lib.hid (boxStays HX1.out E2.out)
        have HK2 : Hid (w2.cell? ⟨ba, off, none⟩ = some (.int .u8 (k.toNat : Int))) := Lib.hid ((E2.out.cell (p := ⟨ba, off, none⟩) (cell_lt HKK.out)).trans HKK.out)
        have D2 : Hid (Below w.heap.size w w2) := Lib.hid (D1.out.trans (E2.out.mono D1.out.size))
        have HC : Hid (Chain [w2, w] w2) := Lib.hid ((Chain.one w).push D2.out)
        have HTK : Hid (BytesAt w (some ⟨ba, off, none⟩) (l.take (9 + n))) := Lib.hid (H.out.take (9 + n))
        have HTL : Hid (9 + n = (l.take (9 + n)).length) := Lib.hid (by have := HLN.out; simp; omega)
        have hsl3 : ∀ w' : World, (Instr.slice 22 (.slice (some ⟨ba, off, none⟩) len cap) none (some (.int .i64 (9 + (n : Int)))) none).run Try.prog w' = .ok (.slice (some ⟨ba, off, none⟩) (9 + n) cap) w' := fun w' =>
          run_upto w' 22 5 Try.underlying22 (fun w => by kernel_rfl) _ _ cap (9 + n) _ (by simp) hcw
        have i0 : 0 < len := by omega
        have tk := k.toNat_lt
        have hkw : IntKind.i64.wrap (k.toNat : Int) = (k.toNat : Int) := i64_wrap (by omega) (by omega)
        have hk255 : Hid (k.toNat ≤ 255) := Lib.hid (by omega)
        have hn24 : Hid ((rest.take n).length ≤ 16777216) := Lib.hid (by rw [HTr.out]; omega)
        have HBS : Hid (w.heap.size < w1.heap.size) := Lib.hid (Array.getElem?_eq_some_iff.1 HX1.out).1
        clear hsl HSRC HS0 HKK BT D1 E2 HX1
        by_cases hxm : (Crc.sum ([k, l0, l1, l2, l3] ++ rest.take n)).toNat = n4 s0 s1 s2 s3
        · have HEQ : Hid (frameF k.toNat (rest.take n) = l.take (9 + n)) := Lib.hid ((HFS.out (by omega)).2 hxm)
          replace HFB : Hid (begF l = (k.toNat, rest.take n, 9 + n, 0)) := Lib.hid (by rw [HFB.out, if_neg hbig, if_neg hsh, if_neg (fun h => h hxm)])
          clear hxm
          refine wp_region_noPanic ?_
          refine wp_region_held_drew (S := fun w' => Below w2.heap.size w2 w') (by kernel_rfl) (Below.refl _ _).drew (fun hS => ?_)
          refine wpAnyH_take (i := 0) (oi := ⟨some 51, _, _, _, _, _⟩) (v := ?_) rfl (by kernel_rfl) (by kernel_rfl) (by kernel_rfl) (fun _ _ _ h => h) (Or.inl ⟨by rfl, ?_⟩) hS ?_
          rotate_left 1
          · intro w' hB; have hd2 := (HC.out.to w2 (by simp)).trans (hB.mono (HC.out.to w2 (by simp)).size); have q0 := (hd2.cell (p := ⟨ba, off, none⟩) (cell_lt HK2.out)).trans HK2.out; clear hd2; have s2 := (HTK.out.below ((HC.out.to w (by simp)).trans (hB.mono (HC.out.to w (by simp)).size)) rfl).str (9 + n) cap HTL.out; (try (have s1 := ((own_bytes O3.out).below ((HC.out.to w3 (by simp)).trans (hB.mono (HC.out.to w3 (by simp)).size)) rfl).str (9 + n) c3 HTL.out)); (go_simp <;> with_reducible rfl)
          try simp only [Act.put, List.setIfInBounds_toArray, List.set_cons_zero, List.set_cons_succ]
          refine wpAnyH_take (i := 1) (oi := ⟨some 52, _, _, _, _, _⟩) (v := ?_) rfl (by kernel_rfl) (by kernel_rfl) (by kernel_rfl) (fun _ _ _ h => h) (Or.inl ⟨by rfl, ?_⟩) hS ?_
          rotate_left 1
          · intro w' hB; have hd2 := (HC.out.to w2 (by simp)).trans (hB.mono (HC.out.to w2 (by simp)).size); have q0 := (hd2.cell (p := ⟨ba, off, none⟩) (cell_lt HK2.out)).trans HK2.out; clear hd2; have s2 := (HTK.out.below ((HC.out.to w (by simp)).trans (hB.mono (HC.out.to w (by simp)).size)) rfl).str (9 + n) cap HTL.out; (try (have s1 := ((own_bytes O3.out).below ((HC.out.to w3 (by simp)).trans (hB.mono (HC.out.to w3 (by simp)).size)) rfl).str (9 + n) c3 HTL.out)); (go_simp <;> with_reducible rfl)
          try simp only [Act.put, List.setIfInBounds_toArray, List.set_cons_zero, List.set_cons_succ]
          refine wpAnyH_take (i := 2) (oi := ⟨some 53, _, _, _, _, _⟩) (v := ?_) rfl (by kernel_rfl) (by kernel_rfl) (by kernel_rfl) (fun _ _ _ h => h) (Or.inl ⟨by rfl, ?_⟩) hS ?_
          rotate_left 1
          · intro w' hB; have hd2 := (HC.out.to w2 (by simp)).trans (hB.mono (HC.out.to w2 (by simp)).size); have q0 := (hd2.cell (p := ⟨ba, off, none⟩) (cell_lt HK2.out)).trans HK2.out; clear hd2; have s2 := (HTK.out.below ((HC.out.to w (by simp)).trans (hB.mono (HC.out.to w (by simp)).size)) rfl).str (9 + n) cap HTL.out; (try (have s1 := ((own_bytes O3.out).below ((HC.out.to w3 (by simp)).trans (hB.mono (HC.out.to w3 (by simp)).size)) rfl).str (9 + n) c3 HTL.out)); (go_simp <;> with_reducible rfl)
          try simp only [Act.put, List.setIfInBounds_toArray, List.set_cons_zero, List.set_cons_succ]
          refine wpAnyH_take (i := 3) (oi := ⟨some 54, _, _, _, _, _⟩) (v := ?_) rfl (by kernel_rfl) (by kernel_rfl) (by kernel_rfl) (fun _ _ _ h => h) (Or.inl ⟨by rfl, ?_⟩) hS ?_
          rotate_left 1
          · intro w' hB; have hd2 := (HC.out.to w2 (by simp)).trans (hB.mono (HC.out.to w2 (by simp)).size); have q0 := (hd2.cell (p := ⟨ba, off, none⟩) (cell_lt HK2.out)).trans HK2.out; clear hd2; have s2 := (HTK.out.below ((HC.out.to w (by simp)).trans (hB.mono (HC.out.to w (by simp)).size)) rfl).str (9 + n) cap HTL.out; (try (have s1 := ((own_bytes O3.out).below ((HC.out.to w3 (by simp)).trans (hB.mono (HC.out.to w3 (by simp)).size)) rfl).str (9 + n) c3 HTL.out)); (go_simp <;> with_reducible rfl)
          try simp only [Act.put, List.setIfInBounds_toArray, List.set_cons_zero, List.set_cons_succ]
          refine wpAnyH_take (i := 4) (oi := ⟨some 55, _, _, _, _, _⟩) (v := ?_) rfl (by kernel_rfl) (by kernel_rfl) (by kernel_rfl) (fun _ _ _ h => h) (Or.inl ⟨by rfl, ?_⟩) hS ?_
          rotate_left 1
          · intro w' hB; have hd2 := (HC.out.to w2 (by simp)).trans (hB.mono (HC.out.to w2 (by simp)).size); have q0 := (hd2.cell (p := ⟨ba, off, none⟩) (cell_lt HK2.out)).trans HK2.out; clear hd2; have s2 := (HTK.out.below ((HC.out.to w (by simp)).trans (hB.mono (HC.out.to w (by simp)).size)) rfl).str (9 + n) cap HTL.out; (try (have s1 := ((own_bytes O3.out).below ((HC.out.to w3 (by simp)).trans (hB.mono (HC.out.to w3 (by simp)).size)) rfl).str (9 + n) c3 HTL.out)); (go_simp <;> with_reducible rfl)
          try simp only [Act.put, List.setIfInBounds_toArray, List.set_cons_zero, List.set_cons_succ]
          refine wpAnyH_take (i := 7) (oi := ⟨some 58, _, _, _, _, _⟩) (v := ?_) rfl (by kernel_rfl) (by kernel_rfl) (by kernel_rfl) (fun _ _ _ h => h) (Or.inl ⟨by rfl, ?_⟩) hS ?_
          rotate_left 1
          · intro w' hB; have hd2 := (HC.out.to w2 (by simp)).trans (hB.mono (HC.out.to w2 (by simp)).size); have q0 := (hd2.cell (p := ⟨ba, off, none⟩) (cell_lt HK2.out)).trans HK2.out; clear hd2; have s2 := (HTK.out.below ((HC.out.to w (by simp)).trans (hB.mono (HC.out.to w (by simp)).size)) rfl).str (9 + n) cap HTL.out; (try (have s1 := ((own_bytes O3.out).below ((HC.out.to w3 (by simp)).trans (hB.mono (HC.out.to w3 (by simp)).size)) rfl).str (9 + n) c3 HTL.out)); (go_simp <;> with_reducible rfl)
          try simp only [Act.put, List.setIfInBounds_toArray, List.set_cons_zero, List.set_cons_succ]
          refine wpAnyH_take (i := 8) (oi := ⟨some 59, _, _, _, _, _⟩) (v := ?_) rfl (by kernel_rfl) (by kernel_rfl) (by kernel_rfl) (fun _ _ _ h => h) (Or.inl ⟨by rfl, ?_⟩) hS ?_
          rotate_left 1
          · intro w' hB; have hd2 := (HC.out.to w2 (by simp)).trans (hB.mono (HC.out.to w2 (by simp)).size); have q0 := (hd2.cell (p := ⟨ba, off, none⟩) (cell_lt HK2.out)).trans HK2.out; clear hd2; have s2 := (HTK.out.below ((HC.out.to w (by simp)).trans (hB.mono (HC.out.to w (by simp)).size)) rfl).str (9 + n) cap HTL.out; (try (have s1 := ((own_bytes O3.out).below ((HC.out.to w3 (by simp)).trans (hB.mono (HC.out.to w3 (by simp)).size)) rfl).str (9 + n) c3 HTL.out)); (go_simp <;> with_reducible rfl)
          try simp only [Act.put, List.setIfInBounds_toArray, List.set_cons_zero, List.set_cons_succ]
          refine wpAnyH_take (i := 9) (oi := ⟨some 60, _, _, _, _, _⟩) (v := ?_) rfl (by kernel_rfl) (by kernel_rfl) (by kernel_rfl) (fun _ _ _ h => h) (Or.inl ⟨by rfl, ?_⟩) hS ?_
          rotate_left 1
          · intro w' hB; have hd2 := (HC.out.to w2 (by simp)).trans (hB.mono (HC.out.to w2 (by simp)).size); have q0 := (hd2.cell (p := ⟨ba, off, none⟩) (cell_lt HK2.out)).trans HK2.out; clear hd2; have s2 := (HTK.out.below ((HC.out.to w (by simp)).trans (hB.mono (HC.out.to w (by simp)).size)) rfl).str (9 + n) cap HTL.out; (try (have s1 := ((own_bytes O3.out).below ((HC.out.to w3 (by simp)).trans (hB.mono (HC.out.to w3 (by simp)).size)) rfl).str (9 + n) c3 HTL.out)); (go_simp <;> with_reducible rfl)
          try simp only [Act.put, List.setIfInBounds_toArray, List.set_cons_zero, List.set_cons_succ]
          refine wpAnyH_take (i := 10) (oi := ⟨some 61, _, _, _, _, _⟩) (v := ?_) rfl (by kernel_rfl) (by kernel_rfl) (by kernel_rfl) (fun _ _ _ h => h) (Or.inl ⟨by rfl, ?_⟩) hS ?_
          rotate_left 1
          · intro w' hB; have hd2 := (HC.out.to w2 (by simp)).trans (hB.mono (HC.out.to w2 (by simp)).size); have q0 := (hd2.cell (p := ⟨ba, off, none⟩) (cell_lt HK2.out)).trans HK2.out; clear hd2; have s2 := (HTK.out.below ((HC.out.to w (by simp)).trans (hB.mono (HC.out.to w (by simp)).size)) rfl).str (9 + n) cap HTL.out; (try (have s1 := ((own_bytes O3.out).below ((HC.out.to w3 (by simp)).trans (hB.mono (HC.out.to w3 (by simp)).size)) rfl).str (9 + n) c3 HTL.out)); (go_simp <;> with_reducible rfl)
          try simp only [Act.put, List.setIfInBounds_toArray, List.set_cons_zero, List.set_cons_succ]
          refine wpAnyH_take (i := 11) (oi := ⟨some 62, _, _, _, _, _⟩) (v := ?_) rfl (by kernel_rfl) (by kernel_rfl) (by kernel_rfl) (fun _ _ _ h => h) (Or.inl ⟨by rfl, ?_⟩) hS ?_
          rotate_left 1
          · intro w' hB; have hd2 := (HC.out.to w2 (by simp)).trans (hB.mono (HC.out.to w2 (by simp)).size); have q0 := (hd2.cell (p := ⟨ba, off, none⟩) (cell_lt HK2.out)).trans HK2.out; clear hd2; have s2 := (HTK.out.below ((HC.out.to w (by simp)).trans (hB.mono (HC.out.to w (by simp)).size)) rfl).str (9 + n) cap HTL.out; (try (have s1 := ((own_bytes O3.out).below ((HC.out.to w3 (by simp)).trans (hB.mono (HC.out.to w3 (by simp)).size)) rfl).str (9 + n) c3 HTL.out)); (go_simp <;> with_reducible rfl)
          try simp only [Act.put, List.setIfInBounds_toArray, List.set_cons_zero, List.set_cons_succ]
          refine wpAnyH_ready (rs := [5]) (by kernel_rfl) (by simp) (AllReadyH.cons (o := ⟨some 56, _, _, _, _, _⟩) rfl (fun K hK => ?_) AllReadyH.nil)
          go_simp
          refine (ref4P k.toNat (rest.take n) _ n _ _ hk255.out HTr.out ((own_bytes O2.out).below hS rfl) hn24.out).mono ?_
          rintro e w3 ⟨v3, rfl, ho, hb⟩
          refine hK.out _ _ (hS.trans (hb.mono hS.size)) (fun _ => ?_)
          clear hK K
          have hB := hS.trans (hb.mono hS.size)
          refine wpAnyH_now hB ?_
          clear hS
          have hS := Below.refl w3.heap.size w3
          replace HC := Lib.hid (HC.out.push hB)
          rw [HEQ.out] at ho
          replace ho := own_len2 ho HTL.out
          obtain ⟨a3, c3, rfl⟩ := own_shape ho
          have O3 := Lib.hid ho
          clear ho
          clear hB hb
          try simp only [Act.put, List.setIfInBounds_toArray, List.set_cons_zero, List.set_cons_succ]
          refine wpAnyH_take (i := 6) (oi := ⟨some 57, _, _, _, _, _⟩) (v := ?_) rfl (by kernel_rfl) (by kernel_rfl) (by kernel_rfl) (fun _ _ _ h => h) (Or.inl ⟨by rfl, ?_⟩) hS ?_
          rotate_left 1
          · intro w' hB; have hd2 := (HC.out.to w2 (by simp)).trans (hB.mono (HC.out.to w2 (by simp)).size); have q0 := (hd2.cell (p := ⟨ba, off, none⟩) (cell_lt HK2.out)).trans HK2.out; clear hd2; have s2 := (HTK.out.below ((HC.out.to w (by simp)).trans (hB.mono (HC.out.to w (by simp)).size)) rfl).str (9 + n) cap HTL.out; (try (have s1 := ((own_bytes O3.out).below ((HC.out.to w3 (by simp)).trans (hB.mono (HC.out.to w3 (by simp)).size)) rfl).str (9 + n) c3 HTL.out)); (go_simp <;> with_reducible rfl)
          try simp only [Act.put, List.setIfInBounds_toArray, List.set_cons_zero, List.set_cons_succ]
          refine wpAnyH_take (i := 12) (oi := ⟨some 63, _, _, _, _, _⟩) (v := ?_) rfl (by kernel_rfl) (by kernel_rfl) (by kernel_rfl) (fun _ _ _ h => h) (Or.inl ⟨by rfl, ?_⟩) hS ?_
          rotate_left 1
          · intro w' hB; have hd2 := (HC.out.to w2 (by simp)).trans (hB.mono (HC.out.to w2 (by simp)).size); have q0 := (hd2.cell (p := ⟨ba, off, none⟩) (cell_lt HK2.out)).trans HK2.out; clear hd2; have s2 := (HTK.out.below ((HC.out.to w (by simp)).trans (hB.mono (HC.out.to w (by simp)).size)) rfl).str (9 + n) cap HTL.out; (try (have s1 := ((own_bytes O3.out).below ((HC.out.to w3 (by simp)).trans (hB.mono (HC.out.to w3 (by simp)).size)) rfl).str (9 + n) c3 HTL.out)); (go_simp <;> with_reducible rfl)
          try simp only [Act.put, List.setIfInBounds_toArray, List.set_cons_zero, List.set_cons_succ]
          refine wpAnyH_done (by kernel_rfl) (NoPanic.normal ?_) _
          have HX4 : Hid (w3.heap[w.heap.size]? = some (.cells #[.int .i64 0, .slice none 0 0] 36 (0, 0))) := Lib.hid (boxStays HX2.out (HC.out.to w2 (by simp)))
          have D4 := Lib.hid (HC.out.to w (by simp))
          have O4 : Hid (w3.ownsRow w1.heap.size 5 1 (.slice a2 n c2) n (bvs (rest.take n))) := Lib.hid (own_below O2.out (HC.out.to w2 (by simp)) (own_lt O2.out))
          have q0 := ((HC.out.to w2 (by simp)).cell (p := ⟨ba, off, none⟩) (cell_lt HK2.out)).trans HK2.out
          have hbs : Hid (w.heap.size < w1.heap.size) := HBS
          clear hS HC
          have f0 : w3.frozen? ⟨w.heap.size, 0, none⟩ = false := frozen_of_row _ _ _ _ _ HX4.out
          have f1 : w3.frozen? ⟨w.heap.size, 1, none⟩ = false := frozen_of_row _ _ _ _ _ HX4.out
          obtain ⟨k0, k1⟩ := box2 HX4.out
          have HS2 := Lib.hid (set2 HX4.out (.int .i64 (k.toNat : Int)) (.slice a2 n c2))
          have HB2 := Lib.hid (below_set2 D4.out (Nat.le_refl _) (.int .i64 (k.toNat : Int)) (.slice a2 n c2))
          have HO9 := Lib.hid (own_grown (own_grown O4.out (set_grown _ w.heap.size 0 (.int .i64 (k.toNat : Int))) (fun j hj e => by have := (O4.out.lt j hj).1; cases e; have := hbs.out; omega)) (set_grown _ w.heap.size 1 (.slice a2 n c2)) (fun j hj e => by have := (O4.out.lt j hj).1; cases e; have := hbs.out; omega))
          go_wp2_with fail
          clear f0 f1 k0 k1
          generalize (w3.setCell ⟨w.heap.size, 0, none⟩ (.int .i64 (k.toNat : Int))).setCell ⟨w.heap.size, 1, none⟩ (.slice a2 n c2) = w9 at *
          obtain ⟨k0, k1⟩ := box2 HS2.out
          refine bodyPost_ret (v := .tuple #[.agg #[.int .i64 (k.toNat : Int), .slice a2 n c2], .int .i64 (9 + (n : Int)), .int .i64 0]) (by simp [results, Try.results18, go_sem, k0, k1]) rfl ?_
          rw [HFB.out]
          refine ⟨.slice a2 n c2, by simp, ?_, HB2.out⟩
          simp only
          rw [HTr.out]
          exact own_mono HO9.out (Nat.le_of_lt hbs.out)
        · have HEQ : Hid (¬ frameF k.toNat (rest.take n) = l.take (9 + n)) := Lib.hid (fun h => hxm ((HFS.out (by omega)).1 h))
          replace HFB : Hid (begF l = (0, [], 0, 141)) := Lib.hid (by rw [HFB.out, if_neg hbig, if_neg hsh, if_pos hxm])
          clear hxm
          refine wp_region_noPanic ?_
          refine wp_region_held_drew (S := fun w' => Below w2.heap.size w2 w') (by kernel_rfl) (Below.refl _ _).drew (fun hS => ?_)
          refine wpAnyH_take (i := 0) (oi := ⟨some 51, _, _, _, _, _⟩) (v := ?_) rfl (by kernel_rfl) (by kernel_rfl) (by kernel_rfl) (fun _ _ _ h => h) (Or.inl ⟨by rfl, ?_⟩) hS ?_
          rotate_left 1
          · intro w' hB; have hd2 := (HC.out.to w2 (by simp)).trans (hB.mono (HC.out.to w2 (by simp)).size); have q0 := (hd2.cell (p := ⟨ba, off, none⟩) (cell_lt HK2.out)).trans HK2.out; clear hd2; have s2 := (HTK.out.below ((HC.out.to w (by simp)).trans (hB.mono (HC.out.to w (by simp)).size)) rfl).str (9 + n) cap HTL.out; (try (have s1 := ((own_bytes O3.out).below ((HC.out.to w3 (by simp)).trans (hB.mono (HC.out.to w3 (by simp)).size)) rfl).str (frameF k.toNat (rest.take n)).length c3 rfl)); have heq := HEQ.out; (go_simp <;> with_reducible rfl)
          try simp only [Act.put, List.setIfInBounds_toArray, List.set_cons_zero, List.set_cons_succ]
          refine wpAnyH_take (i := 1) (oi := ⟨some 52, _, _, _, _, _⟩) (v := ?_) rfl (by kernel_rfl) (by kernel_rfl) (by kernel_rfl) (fun _ _ _ h => h) (Or.inl ⟨by rfl, ?_⟩) hS ?_
          rotate_left 1
          · intro w' hB; have hd2 := (HC.out.to w2 (by simp)).trans (hB.mono (HC.out.to w2 (by simp)).size); have q0 := (hd2.cell (p := ⟨ba, off, none⟩) (cell_lt HK2.out)).trans HK2.out; clear hd2; have s2 := (HTK.out.below ((HC.out.to w (by simp)).trans (hB.mono (HC.out.to w (by simp)).size)) rfl).str (9 + n) cap HTL.out; (try (have s1 := ((own_bytes O3.out).below ((HC.out.to w3 (by simp)).trans (hB.mono (HC.out.to w3 (by simp)).size)) rfl).str (frameF k.toNat (rest.take n)).length c3 rfl)); have heq := HEQ.out; (go_simp <;> with_reducible rfl)
          try simp only [Act.put, List.setIfInBounds_toArray, List.set_cons_zero, List.set_cons_succ]
          refine wpAnyH_take (i := 2) (oi := ⟨some 53, _, _, _, _, _⟩) (v := ?_) rfl (by kernel_rfl) (by kernel_rfl) (by kernel_rfl) (fun _ _ _ h => h) (Or.inl ⟨by rfl, ?_⟩) hS ?_
          rotate_left 1
          · intro w' hB; have hd2 := (HC.out.to w2 (by simp)).trans (hB.mono (HC.out.to w2 (by simp)).size); have q0 := (hd2.cell (p := ⟨ba, off, none⟩) (cell_lt HK2.out)).trans HK2.out; clear hd2; have s2 := (HTK.out.below ((HC.out.to w (by simp)).trans (hB.mono (HC.out.to w (by simp)).size)) rfl).str (9 + n) cap HTL.out; (try (have s1 := ((own_bytes O3.out).below ((HC.out.to w3 (by simp)).trans (hB.mono (HC.out.to w3 (by simp)).size)) rfl).str (frameF k.toNat (rest.take n)).length c3 rfl)); have heq := HEQ.out; (go_simp <;> with_reducible rfl)
          try simp only [Act.put, List.setIfInBounds_toArray, List.set_cons_zero, List.set_cons_succ]
          refine wpAnyH_take (i := 3) (oi := ⟨some 54, _, _, _, _, _⟩) (v := ?_) rfl (by kernel_rfl) (by kernel_rfl) (by kernel_rfl) (fun _ _ _ h => h) (Or.inl ⟨by rfl, ?_⟩) hS ?_
          rotate_left 1
          · intro w' hB; have hd2 := (HC.out.to w2 (by simp)).trans (hB.mono (HC.out.to w2 (by simp)).size); have q0 := (hd2.cell (p := ⟨ba, off, none⟩) (cell_lt HK2.out)).trans HK2.out; clear hd2; have s2 := (HTK.out.below ((HC.out.to w (by simp)).trans (hB.mono (HC.out.to w (by simp)).size)) rfl).str (9 + n) cap HTL.out; (try (have s1 := ((own_bytes O3.out).below ((HC.out.to w3 (by simp)).trans (hB.mono (HC.out.to w3 (by simp)).size)) rfl).str (frameF k.toNat (rest.take n)).length c3 rfl)); have heq := HEQ.out; (go_simp <;> with_reducible rfl)
          try simp only [Act.put, List.setIfInBounds_toArray, List.set_cons_zero, List.set_cons_succ]
          refine wpAnyH_take (i := 4) (oi := ⟨some 55, _, _, _, _, _⟩) (v := ?_) rfl (by kernel_rfl) (by kernel_rfl) (by kernel_rfl) (fun _ _ _ h => h) (Or.inl ⟨by rfl, ?_⟩) hS ?_
          rotate_left 1
          · intro w' hB; have hd2 := (HC.out.to w2 (by simp)).trans (hB.mono (HC.out.to w2 (by simp)).size); have q0 := (hd2.cell (p := ⟨ba, off, none⟩) (cell_lt HK2.out)).trans HK2.out; clear hd2; have s2 := (HTK.out.below ((HC.out.to w (by simp)).trans (hB.mono (HC.out.to w (by simp)).size)) rfl).str (9 + n) cap HTL.out; (try (have s1 := ((own_bytes O3.out).below ((HC.out.to w3 (by simp)).trans (hB.mono (HC.out.to w3 (by simp)).size)) rfl).str (frameF k.toNat (rest.take n)).length c3 rfl)); have heq := HEQ.out; (go_simp <;> with_reducible rfl)
          try simp only [Act.put, List.setIfInBounds_toArray, List.set_cons_zero, List.set_cons_succ]
          refine wpAnyH_take (i := 7) (oi := ⟨some 58, _, _, _, _, _⟩) (v := ?_) rfl (by kernel_rfl) (by kernel_rfl) (by kernel_rfl) (fun _ _ _ h => h) (Or.inl ⟨by rfl, ?_⟩) hS ?_
          rotate_left 1
          · intro w' hB; have hd2 := (HC.out.to w2 (by simp)).trans (hB.mono (HC.out.to w2 (by simp)).size); have q0 := (hd2.cell (p := ⟨ba, off, none⟩) (cell_lt HK2.out)).trans HK2.out; clear hd2; have s2 := (HTK.out.below ((HC.out.to w (by simp)).trans (hB.mono (HC.out.to w (by simp)).size)) rfl).str (9 + n) cap HTL.out; (try (have s1 := ((own_bytes O3.out).below ((HC.out.to w3 (by simp)).trans (hB.mono (HC.out.to w3 (by simp)).size)) rfl).str (frameF k.toNat (rest.take n)).length c3 rfl)); have heq := HEQ.out; (go_simp <;> with_reducible rfl)
          try simp only [Act.put, List.setIfInBounds_toArray, List.set_cons_zero, List.set_cons_succ]
          refine wpAnyH_take (i := 8) (oi := ⟨some 59, _, _, _, _, _⟩) (v := ?_) rfl (by kernel_rfl) (by kernel_rfl) (by kernel_rfl) (fun _ _ _ h => h) (Or.inl ⟨by rfl, ?_⟩) hS ?_
          rotate_left 1
          · intro w' hB; have hd2 := (HC.out.to w2 (by simp)).trans (hB.mono (HC.out.to w2 (by simp)).size); have q0 := (hd2.cell (p := ⟨ba, off, none⟩) (cell_lt HK2.out)).trans HK2.out; clear hd2; have s2 := (HTK.out.below ((HC.out.to w (by simp)).trans (hB.mono (HC.out.to w (by simp)).size)) rfl).str (9 + n) cap HTL.out; (try (have s1 := ((own_bytes O3.out).below ((HC.out.to w3 (by simp)).trans (hB.mono (HC.out.to w3 (by simp)).size)) rfl).str (frameF k.toNat (rest.take n)).length c3 rfl)); have heq := HEQ.out; (go_simp <;> with_reducible rfl)
          try simp only [Act.put, List.setIfInBounds_toArray, List.set_cons_zero, List.set_cons_succ]
          refine wpAnyH_take (i := 9) (oi := ⟨some 60, _, _, _, _, _⟩) (v := ?_) rfl (by kernel_rfl) (by kernel_rfl) (by kernel_rfl) (fun _ _ _ h => h) (Or.inl ⟨by rfl, ?_⟩) hS ?_
          rotate_left 1
          · intro w' hB; have hd2 := (HC.out.to w2 (by simp)).trans (hB.mono (HC.out.to w2 (by simp)).size); have q0 := (hd2.cell (p := ⟨ba, off, none⟩) (cell_lt HK2.out)).trans HK2.out; clear hd2; have s2 := (HTK.out.below ((HC.out.to w (by simp)).trans (hB.mono (HC.out.to w (by simp)).size)) rfl).str (9 + n) cap HTL.out; (try (have s1 := ((own_bytes O3.out).below ((HC.out.to w3 (by simp)).trans (hB.mono (HC.out.to w3 (by simp)).size)) rfl).str (frameF k.toNat (rest.take n)).length c3 rfl)); have heq := HEQ.out; (go_simp <;> with_reducible rfl)
          try simp only [Act.put, List.setIfInBounds_toArray, List.set_cons_zero, List.set_cons_succ]
          refine wpAnyH_take (i := 10) (oi := ⟨some 61, _, _, _, _, _⟩) (v := ?_) rfl (by kernel_rfl) (by kernel_rfl) (by kernel_rfl) (fun _ _ _ h => h) (Or.inl ⟨by rfl, ?_⟩) hS ?_
          rotate_left 1
          · intro w' hB; have hd2 := (HC.out.to w2 (by simp)).trans (hB.mono (HC.out.to w2 (by simp)).size); have q0 := (hd2.cell (p := ⟨ba, off, none⟩) (cell_lt HK2.out)).trans HK2.out; clear hd2; have s2 := (HTK.out.below ((HC.out.to w (by simp)).trans (hB.mono (HC.out.to w (by simp)).size)) rfl).str (9 + n) cap HTL.out; (try (have s1 := ((own_bytes O3.out).below ((HC.out.to w3 (by simp)).trans (hB.mono (HC.out.to w3 (by simp)).size)) rfl).str (frameF k.toNat (rest.take n)).length c3 rfl)); have heq := HEQ.out; (go_simp <;> with_reducible rfl)
          try simp only [Act.put, List.setIfInBounds_toArray, List.set_cons_zero, List.set_cons_succ]
          refine wpAnyH_take (i := 11) (oi := ⟨some 62, _, _, _, _, _⟩) (v := ?_) rfl (by kernel_rfl) (by kernel_rfl) (by kernel_rfl) (fun _ _ _ h => h) (Or.inl ⟨by rfl, ?_⟩) hS ?_
          rotate_left 1
          · intro w' hB; have hd2 := (HC.out.to w2 (by simp)).trans (hB.mono (HC.out.to w2 (by simp)).size); have q0 := (hd2.cell (p := ⟨ba, off, none⟩) (cell_lt HK2.out)).trans HK2.out; clear hd2; have s2 := (HTK.out.below ((HC.out.to w (by simp)).trans (hB.mono (HC.out.to w (by simp)).size)) rfl).str (9 + n) cap HTL.out; (try (have s1 := ((own_bytes O3.out).below ((HC.out.to w3 (by simp)).trans (hB.mono (HC.out.to w3 (by simp)).size)) rfl).str (frameF k.toNat (rest.take n)).length c3 rfl)); have heq := HEQ.out; (go_simp <;> with_reducible rfl)
          try simp only [Act.put, List.setIfInBounds_toArray, List.set_cons_zero, List.set_cons_succ]
          refine wpAnyH_ready (rs := [5]) (by kernel_rfl) (by simp) (AllReadyH.cons (o := ⟨some 56, _, _, _, _, _⟩) rfl (fun K hK => ?_) AllReadyH.nil)
          go_simp
          refine (ref4P k.toNat (rest.take n) _ n _ _ hk255.out HTr.out ((own_bytes O2.out).below hS rfl) hn24.out).mono ?_
          rintro e w3 ⟨v3, rfl, ho, hb⟩
          refine hK.out _ _ (hS.trans (hb.mono hS.size)) (fun _ => ?_)
          clear hK K
          have hB := hS.trans (hb.mono hS.size)
          refine wpAnyH_now hB ?_
          clear hS
          have hS := Below.refl w3.heap.size w3
          replace HC := Lib.hid (HC.out.push hB)
          obtain ⟨a3, c3, rfl⟩ := own_shape ho
          have O3 := Lib.hid ho
          clear ho
          clear hB hb
          try simp only [Act.put, List.setIfInBounds_toArray, List.set_cons_zero, List.set_cons_succ]
          refine wpAnyH_take (i := 6) (oi := ⟨some 57, _, _, _, _, _⟩) (v := ?_) rfl (by kernel_rfl) (by kernel_rfl) (by kernel_rfl) (fun _ _ _ h => h) (Or.inl ⟨by rfl, ?_⟩) hS ?_
          rotate_left 1
          · intro w' hB; have hd2 := (HC.out.to w2 (by simp)).trans (hB.mono (HC.out.to w2 (by simp)).size); have q0 := (hd2.cell (p := ⟨ba, off, none⟩) (cell_lt HK2.out)).trans HK2.out; clear hd2; have s2 := (HTK.out.below ((HC.out.to w (by simp)).trans (hB.mono (HC.out.to w (by simp)).size)) rfl).str (9 + n) cap HTL.out; (try (have s1 := ((own_bytes O3.out).below ((HC.out.to w3 (by simp)).trans (hB.mono (HC.out.to w3 (by simp)).size)) rfl).str (frameF k.toNat (rest.take n)).length c3 rfl)); have heq := HEQ.out; (go_simp <;> with_reducible rfl)
          try simp only [Act.put, List.setIfInBounds_toArray, List.set_cons_zero, List.set_cons_succ]
          refine wpAnyH_take (i := 12) (oi := ⟨some 63, _, _, _, _, _⟩) (v := ?_) rfl (by kernel_rfl) (by kernel_rfl) (by kernel_rfl) (fun _ _ _ h => h) (Or.inl ⟨by rfl, ?_⟩) hS ?_
          rotate_left 1
          · intro w' hB; have hd2 := (HC.out.to w2 (by simp)).trans (hB.mono (HC.out.to w2 (by simp)).size); have q0 := (hd2.cell (p := ⟨ba, off, none⟩) (cell_lt HK2.out)).trans HK2.out; clear hd2; have s2 := (HTK.out.below ((HC.out.to w (by simp)).trans (hB.mono (HC.out.to w (by simp)).size)) rfl).str (9 + n) cap HTL.out; (try (have s1 := ((own_bytes O3.out).below ((HC.out.to w3 (by simp)).trans (hB.mono (HC.out.to w3 (by simp)).size)) rfl).str (frameF k.toNat (rest.take n)).length c3 rfl)); have heq := HEQ.out; (go_simp <;> with_reducible rfl)
          try simp only [Act.put, List.setIfInBounds_toArray, List.set_cons_zero, List.set_cons_succ]
          refine wpAnyH_done (by kernel_rfl) (NoPanic.normal ?_) _
          have HX4 : Hid (w3.heap[w.heap.size]? = some (.cells #[.int .i64 0, .slice none 0 0] 36 (0, 0))) := Lib.hid (boxStays HX2.out (HC.out.to w2 (by simp)))
          have D4 := Lib.hid (HC.out.to w (by simp))
          clear hS HC
          have f0 : w3.frozen? ⟨w.heap.size, 0, none⟩ = false := frozen_of_row _ _ _ _ _ HX4.out
          have f1 : w3.frozen? ⟨w.heap.size, 1, none⟩ = false := frozen_of_row _ _ _ _ _ HX4.out
          obtain ⟨k0, k1⟩ := box2 HX4.out
          have HS2 := Lib.hid (set2 HX4.out (.int .i64 0) (.slice none 0 0))
          have HB2 := Lib.hid (below_set2 D4.out (Nat.le_refl _) (.int .i64 0) (.slice none 0 0))
          have hbq : (frameF k.toNat (rest.take n) == l.take (9 + n)) = false := beq_eq_false_iff_ne.2 HEQ.out
          rw [hbq, Bool.not_false]
          go_wp2_with fail
          clear f0 f1 k0 k1
          generalize (w3.setCell ⟨w.heap.size, 0, none⟩ (.int .i64 0)).setCell ⟨w.heap.size, 1, none⟩ (.slice none 0 0) = w9 at *
          obtain ⟨k0, k1⟩ := box2 HS2.out
          refine bodyPost_ret (v := .tuple #[.agg #[.int .i64 0, .slice none 0 0], .int .i64 0, .int .i64 141]) (by simp [results, Try.results18, go_sem, k0, k1]) rfl ?_
          rw [HFB.out]
          exact ⟨_, rfl, World.ownsRow_nil _ _ _ _, HB2.out⟩
end Go.Proofs.Ytpbjhfajekfjeaa

