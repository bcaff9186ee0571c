/- The walk of the law WireBack. -/
import Derived.Test.YtbgnkdbbkkoinaaWireB1
import Derived.Test.YtbgnkdbbkkoinaaChain
namespace Go.Proofs.Ytbgnkdbbkkoinaa
open Go.RowKit Wire
theorem back_facts (N : Nat) (S : Int) (F : Bool) (B : List UInt8) (hN : N < 18446744073709551616) (hS1 : -9223372036854775808 ≤ S) (hS2 : S ≤ 9223372036854775807) (hB : B.length < 18446744073709551616) :
    ∃ (L : List UInt8) (p1 p2 p3 : Nat), [enc N, enc (fold S), enc B.length ++ B, [if F then 1 else 0]].flatten = L ∧ numOut L 0 = (N, p1, 0) ∧ numOut L p1 = (fold S, p2, 0) ∧ bytesOut L p2 (B.length : Int) = (B, p3, 0) ∧ flagOut L p3 = (F, L.length, 0) ∧
      L.length = (enc N).length + ((enc (fold S)).length + ((enc B.length).length + (B.length + 1))) := by
  refine ⟨_, (enc N).length, (enc N ++ enc (fold S)).length, (enc N ++ enc (fold S) ++ enc B.length ++ B).length, rfl, ?_, ?_, ?_, ?_, by simp⟩
  · have h := numOut_at [] (enc (fold S) ++ (enc B.length ++ (B ++ [if F then 1 else 0]))) N hN
    simpa using h
  · have h := numOut_at (enc N) (enc B.length ++ (B ++ [if F then 1 else 0])) (fold S) (fold_lt S hS1 hS2)
    simpa using h
  · have h := bytesOut_at (enc N ++ enc (fold S)) [if F then 1 else 0] B B.length (Int.le_refl _) hB
    simp only [List.append_assoc] at h
    simp only [List.flatten_cons, List.flatten_nil, List.append_nil, List.append_assoc]
    rw [h]
    simp [Nat.add_assoc]
  · have h := flagOut_at (enc N ++ enc (fold S) ++ enc B.length ++ B) F
    simp only [List.flatten_cons, List.flatten_nil, List.append_nil, List.append_assoc] at h ⊢
    rw [h]
    simp [Nat.add_assoc]
set_option maxRecDepth 100000 in
set_option maxHeartbeats 1000000 in
theorem back_walk (N : Nat) (S : Int) (F : Bool) (B : List UInt8) (a0 : Option Addr) (cap0 : Nat) (b : List UInt8) (a1 : Option Addr) (cap1 : Nat) (w : World) (hN : N < 18446744073709551616) (hS1 : -9223372036854775808 ≤ S) (hS2 : S ≤ 9223372036854775807)
    (hB : BytesAt w a0 B) (hBl : B.length ≤ 1048576) (hb : BytesAt w a1 b) (hbl : b.length ≤ 1048576) (hcap1 : b.length ≤ cap1) :
    Calls Try.prog 4 #[.agg #[.int .u64 N, .int .i64 S, .bool F, .slice a0 B.length cap0], .slice a1 b.length cap1] w fun e w' => e = .returned (.bool true) ∧ Below w.heap.size w w' := by
  have HBy := Lib.hid hB; clear hB
  have Hb := Lib.hid hb; clear hb
  have hL1 : Hid ((enc N).length ≤ 9223372036854775807) := Lib.hid (by have := enc_length N; omega)
  have hL2 : Hid ((enc (fold S)).length ≤ 9223372036854775807) := Lib.hid (by have := enc_length (fold S); omega)
  have hL3 : Hid ((enc B.length).length + B.length ≤ 9223372036854775807) := Lib.hid (by have := enc_length B.length; omega)
  have HSUM : Hid ([enc N, enc (fold S), enc B.length ++ B, [if F then 1 else 0]].flatten.length ≤ 70368744177664) := Lib.hid (by have := enc_length N; have := enc_length (fold S); have := enc_length B.length; simp; omega)
  obtain ⟨L, p1, p2, p3, hL, hn1, hn2, hn3, hn4, hLl⟩ := back_facts N S F B hN hS1 hS2 (by omega)
  have HL := Lib.hid hL; have HN1 := Lib.hid hn1; have HN2 := Lib.hid hn2; have HN3 := Lib.hid hn3; have HN4 := Lib.hid hn4; have HLl := Lib.hid hLl
  clear hL hn1 hn2 hn3 hn4 hLl
  obtain ⟨O, hO⟩ : ∃ O, O = bytesOut b 0 b.length := ⟨_, rfl⟩
  have HO := Lib.hid hO
  have HOB := bytesOut_back b b.length (by omega)
  rw [← hO] at HOB
  replace HOB := Lib.hid HOB
  clear hO
  go_enter Try.func4, Try.ntmps4
  have D0 := below_new w (.cells #[.int .u64 N, .int .i64 S, .bool F, .slice a0 B.length cap0] 25)
  have HX := Lib.hid (heap_alloc_new w (.cells #[.int .u64 N, .int .i64 S, .bool F, .slice a0 B.length cap0] 25))
  go_wp2_with fail
  generalize w.alloc (.cells #[.int .u64 N, .int .i64 S, .bool F, .slice a0 B.length cap0] 25) = w0 at *
  have HC : Hid (Chain [w0, w] w0) := Lib.hid ((Chain.one w).push D0)
  clear D0
  refine wp_region_noPanic ?_
  refine wp_region_held_drew (S := fun w' => Below w0.heap.size w0 w') (by kernel_rfl) (Below.refl _ _).drew (fun hS => ?_)
  refine wpAnyH_take (i := 0) (oi := ⟨some 17, _, _, _, _, _⟩) (v := ?_) rfl (by kernel_rfl) (by kernel_rfl) (by kernel_rfl) (fun _ _ _ h => h) (Or.inl ⟨by rfl, ?_⟩) hS ?_
  rotate_left 1
  · intro w' hB; obtain ⟨k0, k1, k2, k3⟩ := box4 HX.out (((HC.out.to w0 (by simp))).trans (hB.mono (HC.out.to w0 (by simp)).size)); (go_simp <;> with_reducible rfl)
  try simp only [Act.put, List.setIfInBounds_toArray, List.set_cons_zero, List.set_cons_succ]
  refine wpAnyH_take (i := 1) (oi := ⟨some 18, _, _, _, _, _⟩) (v := ?_) rfl (by kernel_rfl) (by kernel_rfl) (by kernel_rfl) (fun _ _ _ h => h) (Or.inl ⟨by rfl, ?_⟩) hS ?_
  rotate_left 1
  · intro w' hB; obtain ⟨k0, k1, k2, k3⟩ := box4 HX.out (((HC.out.to w0 (by simp))).trans (hB.mono (HC.out.to w0 (by simp)).size)); (go_simp <;> with_reducible rfl)
  try simp only [Act.put, List.setIfInBounds_toArray, List.set_cons_zero, List.set_cons_succ]
  refine wpAnyH_take (i := 3) (oi := ⟨some 20, _, _, _, _, _⟩) (v := ?_) rfl (by kernel_rfl) (by kernel_rfl) (by kernel_rfl) (fun _ _ _ h => h) (Or.inl ⟨by rfl, ?_⟩) hS ?_
  rotate_left 1
  · intro w' hB; obtain ⟨k0, k1, k2, k3⟩ := box4 HX.out (((HC.out.to w0 (by simp))).trans (hB.mono (HC.out.to w0 (by simp)).size)); (go_simp <;> with_reducible rfl)
  try simp only [Act.put, List.setIfInBounds_toArray, List.set_cons_zero, List.set_cons_succ]
  refine wpAnyH_take (i := 4) (oi := ⟨some 21, _, _, _, _, _⟩) (v := ?_) rfl (by kernel_rfl) (by kernel_rfl) (by kernel_rfl) (fun _ _ _ h => h) (Or.inl ⟨by rfl, ?_⟩) hS ?_
  rotate_left 1
  · intro w' hB; obtain ⟨k0, k1, k2, k3⟩ := box4 HX.out (((HC.out.to w0 (by simp))).trans (hB.mono (HC.out.to w0 (by simp)).size)); (go_simp <;> with_reducible rfl)
  try simp only [Act.put, List.setIfInBounds_toArray, List.set_cons_zero, List.set_cons_succ]
  refine wpAnyH_take (i := 6) (oi := ⟨some 23, _, _, _, _, _⟩) (v := ?_) rfl (by kernel_rfl) (by kernel_rfl) (by kernel_rfl) (fun _ _ _ h => h) (Or.inl ⟨by rfl, ?_⟩) hS ?_
  rotate_left 1
  · intro w' hB; obtain ⟨k0, k1, k2, k3⟩ := box4 HX.out (((HC.out.to w0 (by simp))).trans (hB.mono (HC.out.to w0 (by simp)).size)); (go_simp <;> with_reducible rfl)
  try simp only [Act.put, List.setIfInBounds_toArray, List.set_cons_zero, List.set_cons_succ]
  refine wpAnyH_take (i := 7) (oi := ⟨some 24, _, _, _, _, _⟩) (v := ?_) rfl (by kernel_rfl) (by kernel_rfl) (by kernel_rfl) (fun _ _ _ h => h) (Or.inl ⟨by rfl, ?_⟩) hS ?_
  rotate_left 1
  · intro w' hB; obtain ⟨k0, k1, k2, k3⟩ := box4 HX.out (((HC.out.to w0 (by simp))).trans (hB.mono (HC.out.to w0 (by simp)).size)); (go_simp <;> with_reducible rfl)
  try simp only [Act.put, List.setIfInBounds_toArray, List.set_cons_zero, List.set_cons_succ]
  refine wpAnyH_take (i := 9) (oi := ⟨some 26, _, _, _, _, _⟩) (v := ?_) rfl (by kernel_rfl) (by kernel_rfl) (by kernel_rfl) (fun _ _ _ h => h) (Or.inl ⟨by rfl, ?_⟩) hS ?_
  rotate_left 1
  · intro w' hB; obtain ⟨k0, k1, k2, k3⟩ := box4 HX.out (((HC.out.to w0 (by simp))).trans (hB.mono (HC.out.to w0 (by simp)).size)); (go_simp <;> with_reducible rfl)
  try simp only [Act.put, List.setIfInBounds_toArray, List.set_cons_zero, List.set_cons_succ]
  refine wpAnyH_take (i := 10) (oi := ⟨some 27, _, _, _, _, _⟩) (v := ?_) rfl (by kernel_rfl) (by kernel_rfl) (by kernel_rfl) (fun _ _ _ h => h) (Or.inl ⟨by rfl, ?_⟩) hS ?_
  rotate_left 1
  · intro w' hB; obtain ⟨k0, k1, k2, k3⟩ := box4 HX.out (((HC.out.to w0 (by simp))).trans (hB.mono (HC.out.to w0 (by simp)).size)); (go_simp <;> with_reducible rfl)
  try simp only [Act.put, List.setIfInBounds_toArray, List.set_cons_zero, List.set_cons_succ]
  refine wpAnyH_ready (rs := [2]) (by kernel_rfl) (by simp) (AllReadyH.cons (o := ⟨some 19, _, _, _, _, _⟩) rfl (fun K hK => ?_) AllReadyH.nil)
  go_simp
  refine (wire_Number _ N _ rfl hN).mono ?_
  rintro e w1 ⟨v1, rfl, ho, hb⟩
  refine hK.out _ _ (hS.trans (hb.mono hS.size)) (fun _ => ?_)
  clear hK K
  have hB := hS.trans (hb.mono hS.size)
  refine wpAnyH_now hB ?_
  clear hS
  have hS := Below.refl w1.heap.size w1
  replace HC := Lib.hid (HC.out.push hB)
  obtain ⟨a1', c1', rfl, h1⟩ := own_bytesAt ho
  have H1 := Lib.hid h1
  clear h1 ho
  clear hB hb
  try simp only [Act.put, List.setIfInBounds_toArray, List.set_cons_zero, List.set_cons_succ]
  refine wpAnyH_ready (rs := [5]) (by kernel_rfl) (by simp) (AllReadyH.cons (o := ⟨some 22, _, _, _, _, _⟩) rfl (fun K hK => ?_) AllReadyH.nil)
  go_simp
  refine (wire_Signed S _ hS1 hS2).mono ?_
  rintro e w2 ⟨v2, rfl, ho, hb⟩
  refine hK.out _ _ (hS.trans (hb.mono hS.size)) (fun _ => ?_)
  clear hK K
  have hB := hS.trans (hb.mono hS.size)
  refine wpAnyH_now hB ?_
  clear hS
  have hS := Below.refl w2.heap.size w2
  replace HC := Lib.hid (HC.out.push hB)
  obtain ⟨a2', c2', rfl, h1⟩ := own_bytesAt ho
  have H2 := Lib.hid h1
  clear h1 ho
  clear hB hb
  try simp only [Act.put, List.setIfInBounds_toArray, List.set_cons_zero, List.set_cons_succ]
  refine wpAnyH_ready (rs := [8]) (by kernel_rfl) (by simp) (AllReadyH.cons (o := ⟨some 25, _, _, _, _, _⟩) rfl (fun K hK => ?_) AllReadyH.nil)
  go_simp
  refine (wire_Bytes B _ _ _ _ (HBy.out.below (HC.out.to w (by simp)) rfl) rfl (by omega)).mono ?_
  rintro e w3 ⟨v3, rfl, ho, hb⟩
  refine hK.out _ _ (hS.trans (hb.mono hS.size)) (fun _ => ?_)
  clear hK K
  have hB := hS.trans (hb.mono hS.size)
  refine wpAnyH_now hB ?_
  clear hS
  have hS := Below.refl w3.heap.size w3
  replace HC := Lib.hid (HC.out.push hB)
  obtain ⟨a3', c3', rfl, h1⟩ := own_bytesAt ho
  have H3 := Lib.hid h1
  clear h1 ho
  clear hB hb
  try simp only [Act.put, List.setIfInBounds_toArray, List.set_cons_zero, List.set_cons_succ]
  refine wpAnyH_ready (rs := [11]) (by kernel_rfl) (by simp) (AllReadyH.cons (o := ⟨some 28, _, _, _, _, _⟩) rfl (fun K hK => ?_) AllReadyH.nil)
  go_simp
  refine (wire_Flag F _).mono ?_
  rintro e w4 ⟨v4, rfl, ho, hb⟩
  refine hK.out _ _ (hS.trans (hb.mono hS.size)) (fun _ => ?_)
  clear hK K
  have hB := hS.trans (hb.mono hS.size)
  refine wpAnyH_now hB ?_
  clear hS
  have hS := Below.refl w4.heap.size w4
  replace HC := Lib.hid (HC.out.push hB)
  obtain ⟨a4', c4', rfl, h1⟩ := own_bytesAt ho
  have H4 := Lib.hid h1
  clear h1 ho
  clear hB hb
  try simp only [Act.put, List.setIfInBounds_toArray, List.set_cons_zero, List.set_cons_succ]
  refine wpAnyH_ready (rs := [12]) (by kernel_rfl) (by simp) (AllReadyH.cons (o := ⟨some 29, _, _, _, _, _⟩) rfl (fun K hK => ?_) AllReadyH.nil)
  go_simp
  refine hK.out _ _ (hS.alloc hS.size _) (fun _ => ?_)
  clear hK K
  refine wpAnyH_made hS ?_
  rintro w5 hw hB
  clear hS
  have hS := Below.refl w5.heap.size w5
  replace HC := Lib.hid (HC.out.push hB)
  have HJ := Lib.hid (lists4 (l1 := enc N) (l2 := enc (fold S)) (l3 := enc B.length ++ B) (l4 := [if F then 1 else 0]) hw rfl rfl (by simp) rfl hL1.out hL2.out hL3.out (by decide) (H1.out.below (HC.out.to w1 (by simp)) rfl) (H2.out.below (HC.out.to w2 (by simp)) rfl) (H3.out.below (HC.out.to w3 (by simp)) rfl) (H4.out.below (HC.out.to w4 (by simp)) rfl))
  clear hw hB
  try simp only [Act.put, List.setIfInBounds_toArray, List.set_cons_zero, List.set_cons_succ]
  refine wpAnyH_ready (rs := [13]) (by kernel_rfl) (by simp) (AllReadyH.cons (o := ⟨some 30, _, _, _, _, _⟩) rfl (fun K hK => ?_) AllReadyH.nil)
  go_simp
  refine (wire_Join _ _ _ _ _ HJ.out rfl (by simp) HSUM.out).mono ?_
  rintro e w6 ⟨v6, rfl, ho, hb⟩
  refine hK.out _ _ (hS.trans (hb.mono hS.size)) (fun _ => ?_)
  clear hK K
  have hB := hS.trans (hb.mono hS.size)
  refine wpAnyH_now hB ?_
  clear hS
  have hS := Below.refl w6.heap.size w6
  replace HC := Lib.hid (HC.out.push hB)
  obtain ⟨a6, c6, rfl, h1⟩ := own_bytesAt ho
  have H6 := Lib.hid h1
  clear h1 ho
  clear hB hb
  try simp only [Act.put, List.setIfInBounds_toArray, List.set_cons_zero, List.set_cons_succ]
  refine wpAnyH_take (i := 14) (oi := ⟨some 5, _, _, _, _, _⟩) (v := ?_) rfl (by kernel_rfl) (by kernel_rfl) (by kernel_rfl) (fun _ _ _ h => h) (Or.inl ⟨by rfl, ?_⟩) hS ?_
  rotate_left 1
  · intro w' hB; obtain ⟨k0, k1, k2, k3⟩ := box4 HX.out (((HC.out.to w0 (by simp))).trans (hB.mono (HC.out.to w0 (by simp)).size)); (go_simp <;> with_reducible rfl)
  try simp only [Act.put, List.setIfInBounds_toArray, List.set_cons_zero, List.set_cons_succ]
  refine wpAnyH_done (by kernel_rfl) (NoPanic.normal ?_) _
  clear HJ H1 H2 H3 H4
  rw [HL.out] at H6 ⊢
  clear hS
  replace HC : Hid (Chain [w6, w0, w] w6) := Lib.hid (fun W hW => HC.out W (by simp only [List.mem_cons, List.not_mem_nil, or_false] at hW ⊢; rcases hW with h | h | h <;> simp [h]))
  go_wp2_with fail
  refine (rd_Open L _ _ _ _ H6.out HLl.out.symm (by rw [HLl.out]; have := enc_length N; have := enc_length (fold S); have := enc_length B.length; omega)).mono ?_
  rintro e w7 ⟨g, ad, cap, rfl, hg, hr, hb, _⟩
  have HC7 := Lib.hid (HC.out.push hb).drop; clear hb
  have HG : Hid (∀ W ∈ [w6, w0, w], W.heap.size ≤ g) := Lib.hid (fun W hW => Nat.le_trans (HC.out W hW).size hg); clear hg
  have HR7 := Lib.hid hr; clear hr
  go_wp2_with fail
  refine (rd_Number HR7.out).mono ?_
  rintro e w8 ⟨rfl, hr⟩
  rw [HN1.out] at hr ⊢
  have HC8 := Lib.hid (HC7.out.only hr.grown HG.out HR7.out.lt)
  have HR8 := Lib.hid hr; clear hr HR7 HC7
  go_wp2_with fail
  refine (rd_Signed HR8.out.rd).mono ?_
  rintro e w9 ⟨rfl, hr⟩
  rw [HN2.out] at hr ⊢
  have HC9 := Lib.hid (HC8.out.only hr.grown HG.out HR8.out.rd.lt)
  have HR9 := Lib.hid hr; clear hr HR8 HC8
  obtain ⟨k0, k1, k2, k3⟩ := box4 HX.out (HC9.out.to w0 (by simp))
  go_wp2_with fail
  refine (rd_Bytes (B.length : Int) (by omega) HR9.out.rd).mono ?_
  rintro e w10 ⟨v10, rfl, hown, hr⟩
  clear k0 k1 k2 k3
  rw [HN3.out] at hr hown ⊢
  have HC10 := Lib.hid (HC9.out.only hr.grown HG.out HR9.out.rd.lt)
  have HR10 := Lib.hid hr; clear hr HR9 HC9
  obtain ⟨a10, c10, rfl, h10⟩ := own_bytesAt hown
  have HX10 := Lib.hid h10; clear h10 hown
  go_wp2_with fail
  refine (rd_Flag HR10.out.rd).mono ?_
  rintro e w11 ⟨rfl, hr⟩
  rw [HN4.out] at hr ⊢
  have HC11 := Lib.hid (HC10.out.only hr.grown HG.out HR10.out.rd.lt)
  have HX11 := Lib.hid (HX10.out.reader HR10.out.rd hr.grown)
  have HR11 := Lib.hid hr; clear hr HR10 HC10 HX10
  obtain ⟨k0, k1, k2, k3⟩ := box4 HX.out (HC11.out.to w0 (by simp))
  have s1 := HX11.out.str B.length c10 rfl
  have s2 := (HBy.out.below (HC11.out.to w (by simp)) rfl).str B.length cap0 rfl
  have hun : unfoldN (fold S) = S := unfold_fold S
  go_wp2_with fail
  refine (num_any 0 _).mono ?_
  rintro e w12 ⟨rfl, rfl⟩
  go_wp2_with fail
  refine (num_any 0 _).mono ?_
  rintro e w12 ⟨rfl, rfl⟩
  go_wp2_with fail
  refine (num_any 0 _).mono ?_
  rintro e w12 ⟨rfl, rfl⟩
  go_wp2_with fail
  refine (num_any 0 _).mono ?_
  rintro e w12 ⟨rfl, rfl⟩
  go_wp2_with fail
  refine (rd_End HR11.out.rd).mono ?_
  rintro e w12 ⟨rfl, q12, hq12⟩
  rw [if_neg (Nat.lt_irrefl _)]
  have HD12 : Hid (Below w.heap.size w w12) := Lib.hid (by rw [hq12]; exact below_drews (HC11.out.to w (by simp)) _)
  clear hq12 k0 k1 k2 k3 s1 s2 hun HR11 HX11 HC11 HG HC H6
  go_wp2_with fail
  refine (num_any 0 _).mono ?_
  rintro e w13 ⟨rfl, rfl⟩
  go_wp2_with fail
  refine (rd_Open b _ _ _ _ (Hb.out.below HD12.out rfl) rfl (by omega)).mono ?_
  rintro e w13 ⟨g2, ad2, cap2, rfl, hg, hr, hb, _⟩
  have HG2 : Hid (w.heap.size ≤ g2) := Lib.hid (Nat.le_trans HD12.out.size hg); clear hg
  have HD13 : Hid (Below w.heap.size w w13) := Lib.hid (HD12.out.trans (hb.mono HD12.out.size)); clear hb HD12
  have HR13 := Lib.hid hr; clear hr
  go_wp2_with fail
  refine (rd_Bytes (b.length : Int) (by omega) HR13.out).mono ?_
  rintro e w14 ⟨v14, rfl, hown, hr⟩
  rw [← HO.out] at hr hown ⊢
  have HD14 : Hid (Below w.heap.size w w14) := Lib.hid (HD13.out.trans (only_below hr.grown HG2.out HR13.out.lt)); clear HD13
  have HR14 := Lib.hid hr.rd; clear hr HR13
  obtain ⟨a14, c14, rfl, h14⟩ := own_bytesAt hown
  have HX14 := Lib.hid h14; clear h14 hown
  clear HO
  obtain ⟨y, p, er⟩ := O
  simp only at HR14 HX14 HOB ⊢
  rcases HOB.out with ⟨h0, hp, hy, hym, hy64⟩ | ⟨h0, hp⟩
  · subst h0
    clear HOB
    have HY := Lib.hid hy; clear hy
    go_wp2_with fail
    refine (num_any 0 _).mono ?_
    rintro e w15 ⟨rfl, rfl⟩
    go_wp2_with fail
    refine (wire_Bytes y _ _ _ _ HX14.out rfl (by omega)).mono ?_
    rintro e w15 ⟨v15, rfl, ho, hb⟩
    rw [HY.out] at ho
    have hTl : (b.take p).length = p := by simp; omega
    have HT : Hid (b.take p = enc y.length ++ y) := Lib.hid HY.out.symm
    have hp0 : 0 < p := by have h := congrArg List.length HY.out; rw [hTl] at h; have := encF_pos 9 y.length; simp [enc] at h this; omega
    rw [hTl] at ho
    obtain ⟨a15, c15, rfl, h15⟩ := own_bytesAt ho
    have hc15 : Hid (p ≤ c15) := Lib.hid (by have := own_len ho; omega)
    have H15 := Lib.hid h15; clear h15 ho
    have HD15 : Hid (Below w.heap.size w w15) := Lib.hid (HD14.out.trans (hb.mono HD14.out.size))
    have HR15 := Lib.hid (HR14.out.below hb); clear hb
    have HC : Hid (Chain [w15, w] w15) := Lib.hid (((Chain.one w).next HD15.out (by simp)).push (Below.refl _ _))
    have hTl := Lib.hid hTl
    generalize hbT : (b.take p) = T at *
    replace hbT := Lib.hid hbT
    have hpc : p ≤ cap1 := by omega
    obtain ⟨left, hleft⟩ : ∃ left, left = b.length - p := ⟨_, rfl⟩
    have hsub : Hid (IntKind.i64.wrap ((b.length : Int) - (left : Int)) = (p : Int)) := Lib.hid (by rw [i64_wrap] <;> omega)
    have hleft' := Lib.hid hleft; clear hleft
    have hpi0 : (0 : Int) ≤ (p : Int) := by omega
    have hpi1 : (p : Int) ≤ (cap1 : Int) := by omega
    go_wp2_with fail
    refine wp_region_noPanic ?_
    refine wp_region_held_drew (S := fun w' => Below w15.heap.size w15 w') (by kernel_rfl) (Below.refl _ _).drew (fun hS => ?_)
    refine wpAnyH_take (i := 0) (oi := ⟨some 129, _, _, _, _, _⟩) (v := ?_) rfl (by kernel_rfl) (by kernel_rfl) (by kernel_rfl) (fun _ _ _ h => h) (Or.inl ⟨by rfl, ?_⟩) hS ?_
    rotate_left 1
    · intro w' hB; have hB15 := (HC.out.to w15 (by simp)).trans (hB.mono (HC.out.to w15 (by simp)).size); have s1 := (H15.out.below hB15 rfl).str p c15 hTl.out.symm; have s2 := ((Hb.out.take p).below ((HC.out.to w (by simp)).trans (hB.mono (HC.out.to w (by simp)).size)) rfl); rw [hbT.out] at s2; replace s2 := s2.str p cap1 hTl.out.symm; have hs := hsub.out; (go_simp <;> with_reducible rfl)
    try simp only [Act.put, List.setIfInBounds_toArray, List.set_cons_zero, List.set_cons_succ]
    refine wpAnyH_take (i := 1) (oi := ⟨some 130, _, _, _, _, _⟩) (v := ?_) rfl (by kernel_rfl) (by kernel_rfl) (by kernel_rfl) (fun _ _ _ h => h) (Or.inl ⟨by rfl, ?_⟩) hS ?_
    rotate_left 1
    · intro w' hB; have hB15 := (HC.out.to w15 (by simp)).trans (hB.mono (HC.out.to w15 (by simp)).size); have s1 := (H15.out.below hB15 rfl).str p c15 hTl.out.symm; have s2 := ((Hb.out.take p).below ((HC.out.to w (by simp)).trans (hB.mono (HC.out.to w (by simp)).size)) rfl); rw [hbT.out] at s2; replace s2 := s2.str p cap1 hTl.out.symm; have hs := hsub.out; (go_simp <;> with_reducible rfl)
    try simp only [Act.put, List.setIfInBounds_toArray, List.set_cons_zero, List.set_cons_succ]
    refine wpAnyH_take (i := 2) (oi := ⟨some 131, _, _, _, _, _⟩) (v := ?_) rfl (by kernel_rfl) (by kernel_rfl) (by kernel_rfl) (fun _ _ _ h => h) (Or.inl ⟨by rfl, ?_⟩) hS ?_
    rotate_left 1
    · intro w' hB; have hB15 := (HC.out.to w15 (by simp)).trans (hB.mono (HC.out.to w15 (by simp)).size); have s1 := (H15.out.below hB15 rfl).str p c15 hTl.out.symm; have s2 := ((Hb.out.take p).below ((HC.out.to w (by simp)).trans (hB.mono (HC.out.to w (by simp)).size)) rfl); rw [hbT.out] at s2; replace s2 := s2.str p cap1 hTl.out.symm; have hs := hsub.out; (go_simp <;> with_reducible rfl)
    try simp only [Act.put, List.setIfInBounds_toArray, List.set_cons_zero, List.set_cons_succ]
    refine wpAnyH_take (i := 3) (oi := ⟨some 132, _, _, _, _, _⟩) (v := ?_) rfl (by kernel_rfl) (by kernel_rfl) (by kernel_rfl) (fun _ _ _ h => h) (Or.inl ⟨by rfl, ?_⟩) hS ?_
    rotate_left 1
    · intro w' hB; have hB15 := (HC.out.to w15 (by simp)).trans (hB.mono (HC.out.to w15 (by simp)).size); have s1 := (H15.out.below hB15 rfl).str p c15 hTl.out.symm; have s2 := ((Hb.out.take p).below ((HC.out.to w (by simp)).trans (hB.mono (HC.out.to w (by simp)).size)) rfl); rw [hbT.out] at s2; replace s2 := s2.str p cap1 hTl.out.symm; have hs := hsub.out; (go_simp <;> with_reducible rfl)
    try simp only [Act.put, List.setIfInBounds_toArray, List.set_cons_zero, List.set_cons_succ]
    refine wpAnyH_take (i := 4) (oi := ⟨some 133, _, _, _, _, _⟩) (v := ?_) rfl (by kernel_rfl) (by kernel_rfl) (by kernel_rfl) (fun _ _ _ h => h) (Or.inl ⟨by rfl, ?_⟩) hS ?_
    rotate_left 1
    · intro w' hB; have hB15 := (HC.out.to w15 (by simp)).trans (hB.mono (HC.out.to w15 (by simp)).size); have s1 := (H15.out.below hB15 rfl).str p c15 hTl.out.symm; have s2 := ((Hb.out.take p).below ((HC.out.to w (by simp)).trans (hB.mono (HC.out.to w (by simp)).size)) rfl); rw [hbT.out] at s2; replace s2 := s2.str p cap1 hTl.out.symm; have hs := hsub.out; (go_simp <;> with_reducible rfl)
    try simp only [Act.put, List.setIfInBounds_toArray, List.set_cons_zero, List.set_cons_succ]
    refine wpAnyH_ready (rs := [5]) (by kernel_rfl) (by simp) (AllReadyH.cons (o := ⟨some 134, _, _, _, _, _⟩) rfl (fun K hK => ?_) AllReadyH.nil)
    go_simp
    refine (rd_LeftB (HR15.out.below hS)).mono ?_
    rintro e w16 ⟨rfl, hb⟩
    refine hK.out _ _ (hS.trans (hb.mono hS.size)) (fun _ => ?_)
    clear hK K
    have hB := hS.trans (hb.mono hS.size)
    refine wpAnyH_now hB ?_
    clear hS
    have hS := Below.refl w16.heap.size w16
    replace HC := Lib.hid (HC.out.push hB)
    rw [← hleft'.out]
    clear hB hb
    try simp only [Act.put, List.setIfInBounds_toArray, List.set_cons_zero, List.set_cons_succ]
    refine wpAnyH_take (i := 6) (oi := ⟨some 135, _, _, _, _, _⟩) (v := ?_) rfl (by kernel_rfl) (by kernel_rfl) (by kernel_rfl) (fun _ _ _ h => h) (Or.inl ⟨by rfl, ?_⟩) hS ?_
    rotate_left 1
    · intro w' hB; have hB15 := (HC.out.to w15 (by simp)).trans (hB.mono (HC.out.to w15 (by simp)).size); have s1 := (H15.out.below hB15 rfl).str p c15 hTl.out.symm; have s2 := ((Hb.out.take p).below ((HC.out.to w (by simp)).trans (hB.mono (HC.out.to w (by simp)).size)) rfl); rw [hbT.out] at s2; replace s2 := s2.str p cap1 hTl.out.symm; have hs := hsub.out; (go_simp <;> with_reducible rfl)
    try simp only [Act.put, List.setIfInBounds_toArray, List.set_cons_zero, List.set_cons_succ]
    refine wpAnyH_take (i := 7) (oi := ⟨some 136, _, _, _, _, _⟩) (v := ?_) rfl (by kernel_rfl) (by kernel_rfl) (by kernel_rfl) (fun _ _ _ h => h) (Or.inl ⟨by rfl, ?_⟩) hS ?_
    rotate_left 1
    · intro w' hB; have hB15 := (HC.out.to w15 (by simp)).trans (hB.mono (HC.out.to w15 (by simp)).size); have s1 := (H15.out.below hB15 rfl).str p c15 hTl.out.symm; have s2 := ((Hb.out.take p).below ((HC.out.to w (by simp)).trans (hB.mono (HC.out.to w (by simp)).size)) rfl); rw [hbT.out] at s2; replace s2 := s2.str p cap1 hTl.out.symm; have hs := hsub.out; (go_simp <;> with_reducible rfl)
    try simp only [Act.put, List.setIfInBounds_toArray, List.set_cons_zero, List.set_cons_succ]
    refine wpAnyH_take (i := 8) (oi := ⟨some 137, _, _, _, _, _⟩) (v := ?_) rfl (by kernel_rfl) (by kernel_rfl) (by kernel_rfl) (fun _ _ _ h => h) (Or.inl ⟨by rfl, ?_⟩) hS ?_
    rotate_left 1
    · intro w' hB; have hB15 := (HC.out.to w15 (by simp)).trans (hB.mono (HC.out.to w15 (by simp)).size); have s1 := (H15.out.below hB15 rfl).str p c15 hTl.out.symm; have s2 := ((Hb.out.take p).below ((HC.out.to w (by simp)).trans (hB.mono (HC.out.to w (by simp)).size)) rfl); rw [hbT.out] at s2; replace s2 := s2.str p cap1 hTl.out.symm; have hs := hsub.out; (go_simp <;> with_reducible rfl)
    try simp only [Act.put, List.setIfInBounds_toArray, List.set_cons_zero, List.set_cons_succ]
    refine wpAnyH_take (i := 9) (oi := ⟨some 138, _, _, _, _, _⟩) (v := ?_) rfl (by kernel_rfl) (by kernel_rfl) (by kernel_rfl) (fun _ _ _ h => h) (Or.inl ⟨by rfl, ?_⟩) hS ?_
    rotate_left 1
    · intro w' hB; have hB15 := (HC.out.to w15 (by simp)).trans (hB.mono (HC.out.to w15 (by simp)).size); have s1 := (H15.out.below hB15 rfl).str p c15 hTl.out.symm; have s2 := ((Hb.out.take p).below ((HC.out.to w (by simp)).trans (hB.mono (HC.out.to w (by simp)).size)) rfl); rw [hbT.out] at s2; replace s2 := s2.str p cap1 hTl.out.symm; have hs := hsub.out; (go_simp <;> with_reducible rfl)
    try simp only [Act.put, List.setIfInBounds_toArray, List.set_cons_zero, List.set_cons_succ]
    refine wpAnyH_take (i := 10) (oi := ⟨some 139, _, _, _, _, _⟩) (v := ?_) rfl (by kernel_rfl) (by kernel_rfl) (by kernel_rfl) (fun _ _ _ h => h) (Or.inl ⟨by rfl, ?_⟩) hS ?_
    rotate_left 1
    · intro w' hB; have hB15 := (HC.out.to w15 (by simp)).trans (hB.mono (HC.out.to w15 (by simp)).size); have s1 := (H15.out.below hB15 rfl).str p c15 hTl.out.symm; have s2 := ((Hb.out.take p).below ((HC.out.to w (by simp)).trans (hB.mono (HC.out.to w (by simp)).size)) rfl); rw [hbT.out] at s2; replace s2 := s2.str p cap1 hTl.out.symm; have hs := hsub.out; (go_simp <;> with_reducible rfl)
    try simp only [Act.put, List.setIfInBounds_toArray, List.set_cons_zero, List.set_cons_succ]
    refine wpAnyH_take (i := 11) (oi := ⟨some 140, _, _, _, _, _⟩) (v := ?_) rfl (by kernel_rfl) (by kernel_rfl) (by kernel_rfl) (fun _ _ _ h => h) (Or.inl ⟨by rfl, ?_⟩) hS ?_
    rotate_left 1
    · intro w' hB; have hB15 := (HC.out.to w15 (by simp)).trans (hB.mono (HC.out.to w15 (by simp)).size); have s1 := (H15.out.below hB15 rfl).str p c15 hTl.out.symm; have s2 := ((Hb.out.take p).below ((HC.out.to w (by simp)).trans (hB.mono (HC.out.to w (by simp)).size)) rfl); rw [hbT.out] at s2; replace s2 := s2.str p cap1 hTl.out.symm; have hs := hsub.out; (go_simp <;> with_reducible rfl)
    try simp only [Act.put, List.setIfInBounds_toArray, List.set_cons_zero, List.set_cons_succ]
    refine wpAnyH_take (i := 12) (oi := ⟨some 141, _, _, _, _, _⟩) (v := ?_) rfl (by kernel_rfl) (by kernel_rfl) (by kernel_rfl) (fun _ _ _ h => h) (Or.inl ⟨by rfl, ?_⟩) hS ?_
    rotate_left 1
    · intro w' hB; have hB15 := (HC.out.to w15 (by simp)).trans (hB.mono (HC.out.to w15 (by simp)).size); have s1 := (H15.out.below hB15 rfl).str p c15 hTl.out.symm; have s2 := ((Hb.out.take p).below ((HC.out.to w (by simp)).trans (hB.mono (HC.out.to w (by simp)).size)) rfl); rw [hbT.out] at s2; replace s2 := s2.str p cap1 hTl.out.symm; have hs := hsub.out; (go_simp <;> with_reducible rfl)
    try simp only [Act.put, List.setIfInBounds_toArray, List.set_cons_zero, List.set_cons_succ]
    refine wpAnyH_take (i := 13) (oi := ⟨some 142, _, _, _, _, _⟩) (v := ?_) rfl (by kernel_rfl) (by kernel_rfl) (by kernel_rfl) (fun _ _ _ h => h) (Or.inl ⟨by rfl, ?_⟩) hS ?_
    rotate_left 1
    · intro w' hB; have hB15 := (HC.out.to w15 (by simp)).trans (hB.mono (HC.out.to w15 (by simp)).size); have s1 := (H15.out.below hB15 rfl).str p c15 hTl.out.symm; have s2 := ((Hb.out.take p).below ((HC.out.to w (by simp)).trans (hB.mono (HC.out.to w (by simp)).size)) rfl); rw [hbT.out] at s2; replace s2 := s2.str p cap1 hTl.out.symm; have hs := hsub.out; (go_simp <;> with_reducible rfl)
    try simp only [Act.put, List.setIfInBounds_toArray, List.set_cons_zero, List.set_cons_succ]
    refine wpAnyH_take (i := 14) (oi := ⟨some 143, _, _, _, _, _⟩) (v := ?_) rfl (by kernel_rfl) (by kernel_rfl) (by kernel_rfl) (fun _ _ _ h => h) (Or.inl ⟨by rfl, ?_⟩) hS ?_
    rotate_left 1
    · intro w' hB; have hB15 := (HC.out.to w15 (by simp)).trans (hB.mono (HC.out.to w15 (by simp)).size); have s1 := (H15.out.below hB15 rfl).str p c15 hTl.out.symm; have s2 := ((Hb.out.take p).below ((HC.out.to w (by simp)).trans (hB.mono (HC.out.to w (by simp)).size)) rfl); rw [hbT.out] at s2; replace s2 := s2.str p cap1 hTl.out.symm; have hs := hsub.out; (go_simp <;> with_reducible rfl)
    try simp only [Act.put, List.setIfInBounds_toArray, List.set_cons_zero, List.set_cons_succ]
    refine wpAnyH_take (i := 15) (oi := ⟨some 144, _, _, _, _, _⟩) (v := ?_) rfl (by kernel_rfl) (by kernel_rfl) (by kernel_rfl) (fun _ _ _ h => h) (Or.inl ⟨by rfl, ?_⟩) hS ?_
    rotate_left 1
    · intro w' hB; have hB15 := (HC.out.to w15 (by simp)).trans (hB.mono (HC.out.to w15 (by simp)).size); have s1 := (H15.out.below hB15 rfl).str p c15 hTl.out.symm; have s2 := ((Hb.out.take p).below ((HC.out.to w (by simp)).trans (hB.mono (HC.out.to w (by simp)).size)) rfl); rw [hbT.out] at s2; replace s2 := s2.str p cap1 hTl.out.symm; have hs := hsub.out; (go_simp <;> with_reducible rfl)
    try simp only [Act.put, List.setIfInBounds_toArray, List.set_cons_zero, List.set_cons_succ]
    refine wpAnyH_take (i := 16) (oi := ⟨some 145, _, _, _, _, _⟩) (v := ?_) rfl (by kernel_rfl) (by kernel_rfl) (by kernel_rfl) (fun _ _ _ h => h) (Or.inl ⟨by rfl, ?_⟩) hS ?_
    rotate_left 1
    · intro w' hB; have hB15 := (HC.out.to w15 (by simp)).trans (hB.mono (HC.out.to w15 (by simp)).size); have s1 := (H15.out.below hB15 rfl).str p c15 hTl.out.symm; have s2 := ((Hb.out.take p).below ((HC.out.to w (by simp)).trans (hB.mono (HC.out.to w (by simp)).size)) rfl); rw [hbT.out] at s2; replace s2 := s2.str p cap1 hTl.out.symm; have hs := hsub.out; (go_simp <;> with_reducible rfl)
    try simp only [Act.put, List.setIfInBounds_toArray, List.set_cons_zero, List.set_cons_succ]
    refine wpAnyH_take (i := 17) (oi := ⟨some 146, _, _, _, _, _⟩) (v := ?_) rfl (by kernel_rfl) (by kernel_rfl) (by kernel_rfl) (fun _ _ _ h => h) (Or.inl ⟨by rfl, ?_⟩) hS ?_
    rotate_left 1
    · intro w' hB; have hB15 := (HC.out.to w15 (by simp)).trans (hB.mono (HC.out.to w15 (by simp)).size); have s1 := (H15.out.below hB15 rfl).str p c15 hTl.out.symm; have s2 := ((Hb.out.take p).below ((HC.out.to w (by simp)).trans (hB.mono (HC.out.to w (by simp)).size)) rfl); rw [hbT.out] at s2; replace s2 := s2.str p cap1 hTl.out.symm; have hs := hsub.out; (go_simp <;> with_reducible rfl)
    try simp only [Act.put, List.setIfInBounds_toArray, List.set_cons_zero, List.set_cons_succ]
    refine wpAnyH_done (by kernel_rfl) (NoPanic.normal ?_) _
    have HD16 : Hid (Below w.heap.size w w16) := Lib.hid (HC.out.to w (by simp))
    replace H15 := Lib.hid (H15.out.below (HC.out.to w15 (by simp)) rfl)
    have HSH : Hid ((bytesOut (T.take (p - 1)) 0 (b.length : Int)).2.2 = 4) := Lib.hid (by have h := bytesOut_short y (b.length : Int) hym hy64; rw [HY.out, hTl.out] at h; exact h)
    have hi0 : (0 : Int) ≤ (p : Int) - 1 := by omega
    have hi1 : (p : Int) - 1 ≤ (c15 : Int) := by have := hc15.out; omega
    clear hS HC hpi0 hpi1 hpc hsub hleft' HR15 HX14 HT HY
    go_wp2_with fail
    refine (rd_Open (T.take (p - 1)) _ _ _ _ (H15.out.take (p - 1)) (by have := hTl.out; rw [List.length_take]; omega) (by have := hTl.out; rw [List.length_take]; omega)).mono ?_
    rintro e w17 ⟨g3, ad3, cap3, rfl, hg, hr, hb, _⟩
    have HG3 : Hid (w.heap.size ≤ g3) := Lib.hid (Nat.le_trans HD16.out.size hg); clear hg
    have HD17 : Hid (Below w.heap.size w w17) := Lib.hid (HD16.out.trans (hb.mono HD16.out.size)); clear hb
    have HR17 := Lib.hid hr; clear hr
    go_wp2_with fail
    refine (rd_Bytes (b.length : Int) (by omega) HR17.out).mono ?_
    rintro e w18 ⟨v18, rfl, hown, hr⟩
    rw [HSH.out]
    have HD18 : Hid (Below w.heap.size w w18) := Lib.hid (HD17.out.trans (only_below hr.grown HG3.out HR17.out.lt)); clear HD17 hown hr
    go_wp2_with fail
    refine (num_any 4 _).mono ?_
    rintro e w19 ⟨rfl, rfl⟩
    go_wp2_with fail
    refine (rd_known _).mono ?_
    rintro e w19 ⟨rfl, hb⟩
    have HD19 : Hid (Below w.heap.size w w19) := Lib.hid (HD18.out.trans (hb.mono HD18.out.size)); clear hb
    go_wp2_with fail
    go_ret
    exact ⟨rfl, HD19.out⟩
  · subst hp
    clear HOB
    have hne : (((er : Nat) : Int) == 0) = false := by simp; omega
    have hne2 : (((er : Nat) : Int) != 0) = true := by simp; omega
    have hgt : (2 : Int) < (er : Int) := by omega
    have HK : Hid (((b.length - 0 : Nat) : Int) = (b.length : Int)) := Lib.hid (by simp)
    go_wp2_with fail
    refine (num_any er _).mono ?_
    rintro e w15 ⟨rfl, rfl⟩
    go_wp2_with fail
    refine (num_any er _).mono ?_
    rintro e w15 ⟨rfl, rfl⟩
    go_wp2_with fail
    refine (rd_Left HR14.out).mono ?_
    rintro e w15 ⟨rfl, q15, hq15⟩
    rw [HK.out]
    have HD15 : Hid (Below w.heap.size w w15) := Lib.hid (by rw [hq15]; exact below_drews HD14.out _)
    clear hq15
    go_wp2_with fail
    refine (rd_known _).mono ?_
    rintro e w16 ⟨rfl, hb⟩
    have HD16 : Hid (Below w.heap.size w w16) := Lib.hid (HD15.out.trans (hb.mono HD15.out.size)); clear hb
    go_wp2_with fail
    go_ret
    exact ⟨rfl, HD16.out⟩
end Go.Proofs.Ytbgnkdbbkkoinaa

