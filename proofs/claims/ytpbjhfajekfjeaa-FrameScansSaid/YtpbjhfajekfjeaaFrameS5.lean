
/- The walk of the law FrameScans. -/
import Derived.Test.YtpbjhfajekfjeaaFrameS4
import Derived.Test.YtpbjhfajekfjeaaFn
import Derived.Test.YtpbjhfajekfjeaaFrameK
namespace Go.Proofs.Ytpbjhfajekfjeaa
open Go.RowKit Frm
theorem scanF_nil (f at0 : Nat) : scanF f [] at0 = ([], at0, 0) := by cases f <;> simp [scanF]
theorem one_scan (b : List UInt8) : ((scanF (b.length + 1) b 0).1.length = 1 ∧ (scanF (b.length + 1) b 0).2.2 = 0 → ∃ k body, (scanF (b.length + 1) b 0).1 = [(0, k, body)] ∧ oneF b = (k, body, 0)) ∧
    (¬ ((scanF (b.length + 1) b 0).1.length = 1 ∧ (scanF (b.length + 1) b 0).2.2 = 0) → oneF b = (0, [], 4)) := by
  unfold oneF
  rw [scanF]
  by_cases h0 : b.length = 0
  · obtain rfl := List.length_eq_zero_iff.1 h0
    refine ⟨fun h => ?_, fun _ => ?_⟩
    · simp at h
    · rw [if_neg]; rw [begF_few [] (by simp)]; simp
  · rw [if_neg h0]
    by_cases h1 : (begF b).2.2.2 = 0
    · obtain ⟨g1, g2, g3, g4⟩ := begF_good b h1
      rw [if_neg (by simpa using h1)]
      by_cases hm : (begF b).2.2.1 = b.length
      · have hd : b.drop (begF b).2.2.1 = [] := by rw [hm, List.drop_length]
        rw [hd, scanF_nil, if_pos ⟨h1, hm⟩]
        exact ⟨fun _ => ⟨_, _, rfl, rfl⟩, fun h => absurd ⟨rfl, rfl⟩ h⟩
      · rw [if_neg (fun h => hm h.2)]
        refine ⟨fun h => ?_, fun _ => rfl⟩
        exfalso
        obtain ⟨f, hf⟩ : ∃ f, b.length = f + 1 := ⟨b.length - 1, by omega⟩
        have hdl : ¬ (b.drop (begF b).2.2.1).length = 0 := by simp; omega
        obtain ⟨h2, h3⟩ := h
        dsimp only at h2 h3
        rw [hf, scanF, if_neg hdl] at h2 h3
        by_cases h4 : (begF (b.drop (begF b).2.2.1)).2.2.2 = 0
        · rw [if_neg (by simpa using h4)] at h2; simp at h2
        · rw [if_pos (by simpa using h4)] at h3; exact h4 h3
    · rw [if_pos (by simpa using h1), if_neg (fun h => h1 h.1)]
      exact ⟨fun h => by simp at h, fun _ => rfl⟩
theorem own_setN {w : World} {base size n g cap : Nat} {e : TypeId} {xs : List Value} (h : w.ownsRow base e size (.slice (some ⟨g, 0, none⟩) n cap) n xs) (i : Nat) (u : Value) :
    (w.setCell ⟨g, i, none⟩ u).ownsRow base e size (.slice (some ⟨g, 0, none⟩) n cap) n (xs.set i u) := by
  refine ⟨by simpa using h.1, ?_⟩
  rcases h.2 with ⟨hv, _⟩ | ⟨g', cap', cur, hv, h1, h2, h3, h4, h5, h6⟩
  · cases hv
  · simp only [Value.slice.injEq, Option.some.injEq, Addr.mk.injEq] at hv
    obtain ⟨⟨rfl, _⟩, _, rfl⟩ := hv
    refine .inr ⟨g, cap, cur.setIfInBounds i u, rfl, h1, heap_setCell_same w g i cur e u h2, h3, h4, by simpa using h5, ?_⟩
    rw [Array.toList_setIfInBounds, List.take_set, h6]
theorem own_keep {S : Nat → Prop} {A A' : World} {B s n : Nat} {e : TypeId} {v : Value} {xs : List Value} (h : A.ownsRow B e s v n xs) (hk : KeepS S A A') (hS : ∀ k, v.ownBlock = some k → S k) : A'.ownsRow B e s v n xs := by
  refine ⟨h.1, ?_⟩
  rcases h.2 with hn | ⟨g, cap', cur, rfl, h1, h2, r⟩
  · exact .inl hn
  · exact .inr ⟨g, cap', cur, rfl, h1, by rw [hk.block g (hS g rfl)]; exact h2, r⟩
theorem FrsAt.keepS {S : Nat → Prop} {A A' : World} {B : Nat} {v : Value} {xs : List FR} (h : FrsAt A B v xs) (hk : KeepS S A A') (hS : ∀ k, B ≤ k → k < A.heap.size → S k) : FrsAt A' B v xs :=
  ⟨own_keep h.row hk (fun k e => hS k (own_base h.row k e) (own_lt h.row k e)), fun y hy => own_keep (h.body y hy) hk (fun k e => hS k (own_base (h.body y hy) k e) (own_lt (h.body y hy) k e)), h.apart⟩
theorem KeepS.grown {S : Nat → Prop} {A B C : World} {row : Option Nat} (h : KeepS S A B) (hg : B.grownBy C row) (hS : ∀ k, S k → k < B.heap.size ∧ some k ≠ row) : KeepS S A C :=
  h.trans ⟨hg.os, hg.tape, hg.output, hg.size, fun k hk => hg.block k (hS k hk).1 (hS k hk).2⟩
theorem KeepS.sub {S S' : Nat → Prop} {A B : World} (h : KeepS S' A B) (hs : ∀ k, S k → S' k) : KeepS S A B := ⟨h.os, h.tape, h.output, h.size, fun k hk => h.block k (hs k hk)⟩
theorem KeepS.box {S : Nat → Prop} {A B : World} (h : KeepS S A B) {b : Nat} {t : TypeId} {v : Value} (hb : Boxed A b t v) (hS : S b) : Boxed B b t v := (h.block b hS).trans hb
abbrev flatF (xs : List FR) : List Value := xs.flatMap fun x => [Value.int .i64 (x.2.1 : Int), x.2.2.1]
/-- Of the frames of a list: those from i on stand. -/
structure RestAt (A : World) (B : Nat) (v : Value) (xs : List FR) (i : Nat) : Prop where
  row : ∃ cs, A.ownsRow B 36 2 v xs.length cs ∧ ∀ j, i * 2 ≤ j → cs[j]? = (flatF xs)[j]?
  body : ∀ y ∈ xs.drop i, A.ownsRow B 5 1 y.2.2.1 y.2.2.2.length (bvs y.2.2.2)
theorem FrsAt.rest {A : World} {B : Nat} {v : Value} {xs : List FR} (h : FrsAt A B v xs) : RestAt A B v xs 0 := ⟨⟨_, h.row, fun _ _ => rfl⟩, by simpa using h.body⟩
theorem RestAt.next {A A' : World} {B : Nat} {v : Value} {xs : List FR} {i : Nat} {y : FR} (h : RestAt A B v xs i) (hd : xs.drop i = y :: xs.drop (i + 1)) (ap : xs.Pairwise fun y x => ∀ k k', y.2.2.1.ownBlock = some k → x.2.2.1.ownBlock = some k' → k < k')
    (hk : KeepS (fun k => k < A.heap.size ∧ some k ≠ y.2.2.1.ownBlock ∧ some k ≠ v.ownBlock) A A') (hrow : ∃ cs, A'.ownsRow B 36 2 v xs.length cs ∧ ∀ j, (i + 1) * 2 ≤ j → cs[j]? = (flatF xs)[j]?) : RestAt A' B v xs (i + 1) := by
  refine ⟨hrow, fun x hx => ?_⟩
  have hb := h.body x (by rw [hd]; exact List.mem_cons_of_mem _ hx)
  have ap' : (xs.drop i).Pairwise fun y x => ∀ k k', y.2.2.1.ownBlock = some k → x.2.2.1.ownBlock = some k' → k < k' := ap.sublist (List.drop_sublist i xs)
  rw [hd] at ap'
  obtain ⟨cs, hr, _⟩ := h.row
  refine own_keep hb hk fun k e => ⟨own_lt hb k e, fun e2 => ?_, fun e2 => own_ne hr hb (by decide) k e e2.symm⟩
  have := (List.pairwise_cons.1 ap').1 x hx k k e2.symm e
  omega
/-- A row's cells, all at once. -/
theorem own_rowN {w : World} {base size n : Nat} {e : TypeId} {a : Option Addr} {len cap : Nat} {xs : List Value} (h : w.ownsRow base e size (.slice a len cap) n xs) {g : Nat} (ha : a = some ⟨g, 0, none⟩) :
    (∀ (i : Nat) (u : Value), xs[i]? = some u → w.cell? ⟨g, i, none⟩ = some u) ∧ (∀ j, w.frozen? ⟨g, j, none⟩ = false) ∧ g < w.heap.size := by
  subst ha
  rcases h.2 with ⟨hv, hn⟩ | ⟨g', cap', cur, hv, hb, hg, hnc, _, hcs, ht⟩
  · simp at hv
  · simp only [Value.slice.injEq, Option.some.injEq, Addr.mk.injEq] at hv
    obtain ⟨⟨rfl, _⟩, _, _⟩ := hv
    refine ⟨fun i u hu => ?_, fun j => frozen_of_row w g j cur e hg, (Array.getElem?_eq_some_iff.1 hg).1⟩
    rw [cell_of_row w g i cur e _ hg]
    rw [← ht, List.getElem?_take] at hu
    split at hu
    · simpa using hu
    · cases hu
theorem scanF_le : ∀ (f : Nat) (l : List UInt8) (at0 : Nat), (scanF f l at0).1.length ≤ l.length ∧ ∀ x ∈ (scanF f l at0).1, x.2.2.length ≤ l.length
  | 0, l, at0 => by simp [scanF]
  | f + 1, l, at0 => by
    rw [scanF]
    by_cases h0 : l.length = 0
    · rw [if_pos h0]; simp
    · rw [if_neg h0]
      by_cases h1 : (begF l).2.2.2 = 0
      · rw [if_neg (by simpa using h1)]
        obtain ⟨g1, g2, g3, g4⟩ := begF_good l h1
        obtain ⟨i1, i2⟩ := scanF_le f (l.drop (begF l).2.2.1) (at0 + (begF l).2.2.1)
        rw [List.length_drop] at i1 i2
        dsimp only
        refine ⟨by simp only [List.length_cons]; omega, fun x hx => ?_⟩
        rcases List.mem_cons.1 hx with rfl | hx
        · dsimp only; omega
        · have := i2 x hx; omega
      · rw [if_pos (by simpa using h1)]; simp
/-- What a round leaves of all else. -/
def Else (B0 B1 : Nat) (W0 : World) (k : Nat) : Prop := k < B0 ∨ (B1 ≤ k ∧ k < W0.heap.size)
set_option maxRecDepth 100000 in
set_option maxHeartbeats 2000000 in
theorem scans_walk (l : List UInt8) (a : Option Addr) (cap : Nat) (leave : Int) (w : World) (h : BytesAt w a l) (hcap : l.length ≤ cap) (hl : l.length ≤ 60000) :
    Calls Try.prog 3 #[.slice a l.length cap, .int .i64 leave] w fun e w' => e = .returned (.bool true) ∧ Below w.heap.size w w' := by
  have BT := Lib.hid byteT
  have H := Lib.hid h; clear h
  obtain ⟨R, hR⟩ : ∃ R, scanF (l.length + 1) l 0 = R := ⟨_, rfl⟩
  have HSL := Lib.hid (scanF_le (l.length + 1) l 0)
  rw [hR] at HSL
  obtain ⟨RL, RG, RW⟩ := R
  have HR := Lib.hid hR; clear hR
  have hli : ¬ (60000 : Int) < (l.length : Int) := by omega
  go_enter Try.func3, Try.ntmps3
  go_wp2_with (first
    | (at_builtin; refine wpList_appb rfl _ _ 22 22 rfl w.heap.size 5 BT.out (.slice a1 l.length c1) l rfl (O1.out.alloc _) _ [119] rfl (src_one Try.underlying22 w1 5 119 _ rfl) (by simp; omega) (by have := D1.out.size; simp; omega) ?_; intro v2 w2 hown _ hb _; obtain ⟨g2, c2, rfl, hg2, hg2', hc2, hc2'⟩ := own_form hown (by simp); have hlen2 : (l ++ [119]).length = l.length + 1 := (by simp); (try rw [hlen2] at hown); (try rw [hlen2] at hc2); (try rw [hlen2]); have O2 := Lib.hid hown; have D2 := Lib.hid ((D1.out.alloc D1.out.size (.cells #[.int .u8 119] 5)).trans hb); have HG2 := Lib.hid (And.intro hg2 hg2'); clear hown hb hg2 hg2' hlen2)
    | (at_builtin; refine wpList_appb rfl _ _ 22 22 rfl w.heap.size 5 BT.out (.slice none 0 0) [] rfl (World.ownsRow_nil _ _ _ _) _ l rfl (H.out.src Try.underlying22 cap) (by simp; omega) (Nat.le_refl _) ?_; intro v1 w1 hown _ hb _; rw [List.nil_append] at hown; obtain ⟨a1, c1, rfl⟩ := own_shape hown; have O1 := Lib.hid hown; have D1 := Lib.hid hb; clear hown hb)
    | fail)
  have B2 : Hid (BytesAt w2 (some ⟨g2, 0, none⟩) l) := Lib.hid (by have := (own_bytes O2.out).take l.length; rwa [List.take_left] at this)
  have C3 := frame_Scan l (some ⟨g2, 0, none⟩) c2 w2 B2.out (by omega) (by omega)
  rw [HR.out] at C3
  refine C3.mono ?_
  clear C3
  rintro e w3 ⟨vl, xl, rfl, hm, hf, hb⟩
  have HML := Lib.hid hm
  have HFL := Lib.hid hf
  have D3 := Lib.hid hb
  clear hm hf hb
  go_wp2_with fail
  have C4 := ref4_Scan l a cap w3 (H.out.below (D2.out.trans (D3.out.mono D2.out.size)) rfl) hcap (by omega)
  rw [HR.out] at C4
  refine C4.mono ?_
  clear C4
  rintro e w4 ⟨vt, xt, rfl, hm, hf, hb⟩
  have HMT := Lib.hid hm
  have HFT := Lib.hid hf
  have D4 := Lib.hid hb
  clear hm hf hb
  obtain ⟨la, lc, rfl⟩ := own_shape HFL.out.row
  obtain ⟨ta, tc, rfl⟩ := own_shape HFT.out.row
  have hlt : xl.length = xt.length := by
    have := congrArg List.length (HML.out.trans HMT.out.symm)
    simpa using this
  generalize hxl : xl.length = nl at *
  have HXL := Lib.hid hxl
  clear hxl
  generalize hxt : xt.length = nt at *
  subst hlt
  have HXT := Lib.hid hxt
  clear hxt
  go_wp2_with (refine (fnum _ _).mono ?_; rintro e w9 ⟨rfl, rfl⟩)
  have hnl : nl ≤ 60000 := by have h1 := HSL.out.1; have h2 := HXL.out; rw [← HML.out, List.length_map] at h1; omega
  have B4 : Hid (BytesAt w4 (some ⟨g2, 0, none⟩) l) := Lib.hid ((B2.out.below D3.out rfl).below D4.out rfl)
  refine (frame_All l (some ⟨g2, 0, none⟩) c2 w4 B4.out (by omega)).mono ?_
  rintro e w5 ⟨X, va, vc, rfl, hX, hXB, hown, hb⟩
  have HXs := Lib.hid hX
  have HXB := Lib.hid hXB
  have HVA := Lib.hid hown
  have D5 := Lib.hid hb
  clear hX hXB hown hb
  have EQF := fun (w : World) => eql_func Try.underlying32 (.func 19) #[] #[.pointer (some ⟨X, 0, none⟩)] w
  go_wp2_with fail
  clear EQF
  go_loopw [13] (fun u wr => ∃ i : Nat, u = .int .i64 (i : Int) ∧ i ≤ nl ∧ Hid (KeepS (Else w2.heap.size w3.heap.size w5) w5 wr) ∧ Hid (RestAt wr w2.heap.size (.slice la nl lc) xl i)) (fun u _ => nl - (intOf u).toNat)
  case atStart => exact ⟨0, rfl, by omega, Lib.hid (KeepS.refl _ _), Lib.hid ((HFL.out.below D4.out rfl).below D5.out rfl).rest⟩
  case round =>
    obtain ⟨i, rfl, hi, HK, HRest⟩ := hrel
    by_cases hin : i < nl
    · have hii : (i : Int) < (nl : Int) := by omega
      obtain ⟨wo, rfl⟩ : ∃ wo : World, wo = wr := ⟨_, rfl⟩
      have hil : i < xl.length := by rw [HXL.out]; exact hin
      have hit : i < xt.length := by rw [HXT.out]; exact hin
      obtain ⟨⟨p9, k9, v9, b9⟩, hy⟩ : ∃ y, xl[i]'hil = y := ⟨_, rfl⟩
      obtain ⟨⟨p8, k8, v8, b8⟩, hx⟩ : ∃ y, xt[i]'hit = y := ⟨_, rfl⟩
      have hpl : plainFR (xl[i]'hil) = plainFR (xt[i]'hit) := by
        have h1 : (xl.map plainFR)[i]? = (xt.map plainFR)[i]? := by rw [HML.out, HMT.out]
        simpa [hil, hit] using h1
      rw [hy, hx] at hpl
      simp only [plainFR, Prod.mk.injEq] at hpl
      obtain ⟨rfl, rfl, rfl⟩ := hpl
      have HD : Hid (xl.drop i = (p9, k9, v9, b9) :: xl.drop (i + 1)) := Lib.hid (by rw [← hy]; exact List.drop_eq_getElem_cons hil)
      have HB9 := Lib.hid (HRest.out.body (p9, k9, v9, b9) (by rw [HD.out]; exact List.mem_cons_self))
      have HB8 := Lib.hid (HFT.out.body (p9, k9, v8, b9) (by rw [← hx]; exact List.getElem_mem hit))
      have HBB : Hid (∀ k, v9.ownBlock = some k → w2.heap.size ≤ k ∧ k < w3.heap.size) := Lib.hid (fun k e => by
        have h1 := HFL.out.body (p9, k9, v9, b9) (by rw [← hy]; exact List.getElem_mem hil)
        exact ⟨own_base h1 k e, own_lt h1 k e⟩)
      obtain ⟨va9, vc9, hv9⟩ := own_shape HB9.out
      obtain ⟨va8, vc8, hv8⟩ := own_shape HB8.out
      dsimp only at hv9 hv8
      subst hv9
      subst hv8
      obtain ⟨t0, t1⟩ := flat2 xl i hil
      obtain ⟨t2, t3⟩ := flat2 xt i hit
      rw [hy] at t0 t1
      rw [hx] at t2 t3
      obtain ⟨cs, hrow, hcs⟩ := HRest.out.row
      have HROW : Hid (wo.ownsRow w2.heap.size 36 2 (.slice la nl lc) nl cs) := Lib.hid (by rw [← HXL.out]; rw [HXL.out]; rw [HXL.out] at hrow; exact hrow)
      rw [← hcs (i * 2) (Nat.le_refl _)] at t0
      rw [← hcs (i * 2 + 1) (by omega)] at t1
      have HCS := Lib.hid hcs
      obtain ⟨gl, hgl, hglb, _⟩ := own_cellN hrow _ _ t0
      obtain ⟨gt, hgt, hgtb, _⟩ := own_cellN HFT.out.row _ _ t2
      subst hgl
      subst hgt
      have KT : Hid (FrsAt wo w3.heap.size (.slice (some ⟨gt, 0, none⟩) nl tc) xt) := Lib.hid ((HFT.out.below D5.out rfl).keepS HK.out (fun k h1 h2 => .inr ⟨h1, h2⟩))
      have Q0 := Lib.hid ((own_rowN hrow rfl).1 _ _ t0)
      have Q1 := Lib.hid ((own_rowN hrow rfl).1 _ _ t1)
      have Q2 := Lib.hid ((own_rowN KT.out.row rfl).1 _ _ t2)
      have Q3 := Lib.hid ((own_rowN KT.out.row rfl).1 _ _ t3)
      have BL := Lib.hid (own_bytes HB9.out)
      have BW := Lib.hid (own_bytes (KT.out.body (p9, k9, .slice va8 b9.length vc8, b9) (by rw [← hx]; exact List.getElem_mem hit)))
      have hb9 : b9.length ≤ 60000 := by have h1 := HSL.out.2 (p9, k9, b9) (by rw [← HML.out]; exact List.mem_map.2 ⟨_, List.getElem_mem hil, by rw [hy]; rfl⟩); dsimp only at h1; omega
      clear t0 t2 t3 hcs hrow hy hx hgtb
      have T1 := Lib.hid t1
      clear t1
      have HC : Hid (Chain [wo] wo) := Lib.hid (Chain.one wo)
      have hnle : ¬ nl ≤ i := by omega
      have hdle : decide (nl ≤ i) = false := by simp; omega
      go_wp2_with fail
      refine wp_region_noPanic ?_
      refine wp_region_held_drew (S := fun w' => Below wo.heap.size wo w') (by kernel_rfl) (Below.refl _ _).drew (fun hS => ?_)
      refine wpAnyH_take (i := 0) (oi := ⟨some 70, _, _, _, _, _⟩) (v := ?_) rfl (by kernel_rfl) (by kernel_rfl) (by kernel_rfl) (fun _ _ _ h => h) (Or.inl ⟨by rfl, ?_⟩) hS ?_
      rotate_left 1
      · intro w' hB; have hd := (HC.out.to wo (by simp)).trans (hB.mono (HC.out.to wo (by simp)).size); have q0 := (hd.cell (p := ⟨gl, i * 2, none⟩) (block_lt_of_cell Q0.out)).trans Q0.out; have q1 := (hd.cell (p := ⟨gl, i * 2 + 1, none⟩) (block_lt_of_cell Q1.out)).trans Q1.out; have q2 := (hd.cell (p := ⟨gt, i * 2, none⟩) (block_lt_of_cell Q2.out)).trans Q2.out; have q3 := (hd.cell (p := ⟨gt, i * 2 + 1, none⟩) (block_lt_of_cell Q3.out)).trans Q3.out; clear hd; (go_simp <;> with_reducible rfl)
      try simp only [Act.put, List.setIfInBounds_toArray, List.set_cons_zero, List.set_cons_succ]
      refine wpAnyH_take (i := 1) (oi := ⟨some 71, _, _, _, _, _⟩) (v := ?_) rfl (by kernel_rfl) (by kernel_rfl) (by kernel_rfl) (fun _ _ _ h => h) (Or.inl ⟨by rfl, ?_⟩) hS ?_
      rotate_left 1
      · intro w' hB; have hd := (HC.out.to wo (by simp)).trans (hB.mono (HC.out.to wo (by simp)).size); have q0 := (hd.cell (p := ⟨gl, i * 2, none⟩) (block_lt_of_cell Q0.out)).trans Q0.out; have q1 := (hd.cell (p := ⟨gl, i * 2 + 1, none⟩) (block_lt_of_cell Q1.out)).trans Q1.out; have q2 := (hd.cell (p := ⟨gt, i * 2, none⟩) (block_lt_of_cell Q2.out)).trans Q2.out; have q3 := (hd.cell (p := ⟨gt, i * 2 + 1, none⟩) (block_lt_of_cell Q3.out)).trans Q3.out; clear hd; (go_simp <;> with_reducible rfl)
      try simp only [Act.put, List.setIfInBounds_toArray, List.set_cons_zero, List.set_cons_succ]
      refine wpAnyH_take (i := 2) (oi := ⟨some 72, _, _, _, _, _⟩) (v := ?_) rfl (by kernel_rfl) (by kernel_rfl) (by kernel_rfl) (fun _ _ _ h => h) (Or.inl ⟨by rfl, ?_⟩) hS ?_
      rotate_left 1
      · intro w' hB; have hd := (HC.out.to wo (by simp)).trans (hB.mono (HC.out.to wo (by simp)).size); have q0 := (hd.cell (p := ⟨gl, i * 2, none⟩) (block_lt_of_cell Q0.out)).trans Q0.out; have q1 := (hd.cell (p := ⟨gl, i * 2 + 1, none⟩) (block_lt_of_cell Q1.out)).trans Q1.out; have q2 := (hd.cell (p := ⟨gt, i * 2, none⟩) (block_lt_of_cell Q2.out)).trans Q2.out; have q3 := (hd.cell (p := ⟨gt, i * 2 + 1, none⟩) (block_lt_of_cell Q3.out)).trans Q3.out; clear hd; (go_simp <;> with_reducible rfl)
      try simp only [Act.put, List.setIfInBounds_toArray, List.set_cons_zero, List.set_cons_succ]
      refine wpAnyH_take (i := 3) (oi := ⟨some 73, _, _, _, _, _⟩) (v := ?_) rfl (by kernel_rfl) (by kernel_rfl) (by kernel_rfl) (fun _ _ _ h => h) (Or.inl ⟨by rfl, ?_⟩) hS ?_
      rotate_left 1
      · intro w' hB; have hd := (HC.out.to wo (by simp)).trans (hB.mono (HC.out.to wo (by simp)).size); have q0 := (hd.cell (p := ⟨gl, i * 2, none⟩) (block_lt_of_cell Q0.out)).trans Q0.out; have q1 := (hd.cell (p := ⟨gl, i * 2 + 1, none⟩) (block_lt_of_cell Q1.out)).trans Q1.out; have q2 := (hd.cell (p := ⟨gt, i * 2, none⟩) (block_lt_of_cell Q2.out)).trans Q2.out; have q3 := (hd.cell (p := ⟨gt, i * 2 + 1, none⟩) (block_lt_of_cell Q3.out)).trans Q3.out; clear hd; (go_simp <;> with_reducible rfl)
      try simp only [Act.put, List.setIfInBounds_toArray, List.set_cons_zero, List.set_cons_succ]
      refine wpAnyH_take (i := 4) (oi := ⟨some 74, _, _, _, _, _⟩) (v := ?_) rfl (by kernel_rfl) (by kernel_rfl) (by kernel_rfl) (fun _ _ _ h => h) (Or.inl ⟨by rfl, ?_⟩) hS ?_
      rotate_left 1
      · intro w' hB; have hd := (HC.out.to wo (by simp)).trans (hB.mono (HC.out.to wo (by simp)).size); have q0 := (hd.cell (p := ⟨gl, i * 2, none⟩) (block_lt_of_cell Q0.out)).trans Q0.out; have q1 := (hd.cell (p := ⟨gl, i * 2 + 1, none⟩) (block_lt_of_cell Q1.out)).trans Q1.out; have q2 := (hd.cell (p := ⟨gt, i * 2, none⟩) (block_lt_of_cell Q2.out)).trans Q2.out; have q3 := (hd.cell (p := ⟨gt, i * 2 + 1, none⟩) (block_lt_of_cell Q3.out)).trans Q3.out; clear hd; (go_simp <;> with_reducible rfl)
      try simp only [Act.put, List.setIfInBounds_toArray, List.set_cons_zero, List.set_cons_succ]
      refine wpAnyH_take (i := 5) (oi := ⟨some 75, _, _, _, _, _⟩) (v := ?_) rfl (by kernel_rfl) (by kernel_rfl) (by kernel_rfl) (fun _ _ _ h => h) (Or.inl ⟨by rfl, ?_⟩) hS ?_
      rotate_left 1
      · intro w' hB; have hd := (HC.out.to wo (by simp)).trans (hB.mono (HC.out.to wo (by simp)).size); have q0 := (hd.cell (p := ⟨gl, i * 2, none⟩) (block_lt_of_cell Q0.out)).trans Q0.out; have q1 := (hd.cell (p := ⟨gl, i * 2 + 1, none⟩) (block_lt_of_cell Q1.out)).trans Q1.out; have q2 := (hd.cell (p := ⟨gt, i * 2, none⟩) (block_lt_of_cell Q2.out)).trans Q2.out; have q3 := (hd.cell (p := ⟨gt, i * 2 + 1, none⟩) (block_lt_of_cell Q3.out)).trans Q3.out; clear hd; (go_simp <;> with_reducible rfl)
      try simp only [Act.put, List.setIfInBounds_toArray, List.set_cons_zero, List.set_cons_succ]
      refine wpAnyH_take (i := 6) (oi := ⟨some 76, _, _, _, _, _⟩) (v := ?_) rfl (by kernel_rfl) (by kernel_rfl) (by kernel_rfl) (fun _ _ _ h => h) (Or.inl ⟨by rfl, ?_⟩) hS ?_
      rotate_left 1
      · intro w' hB; have hd := (HC.out.to wo (by simp)).trans (hB.mono (HC.out.to wo (by simp)).size); have q0 := (hd.cell (p := ⟨gl, i * 2, none⟩) (block_lt_of_cell Q0.out)).trans Q0.out; have q1 := (hd.cell (p := ⟨gl, i * 2 + 1, none⟩) (block_lt_of_cell Q1.out)).trans Q1.out; have q2 := (hd.cell (p := ⟨gt, i * 2, none⟩) (block_lt_of_cell Q2.out)).trans Q2.out; have q3 := (hd.cell (p := ⟨gt, i * 2 + 1, none⟩) (block_lt_of_cell Q3.out)).trans Q3.out; clear hd; (go_simp <;> with_reducible rfl)
      try simp only [Act.put, List.setIfInBounds_toArray, List.set_cons_zero, List.set_cons_succ]
      refine wpAnyH_take (i := 7) (oi := ⟨some 77, _, _, _, _, _⟩) (v := ?_) rfl (by kernel_rfl) (by kernel_rfl) (by kernel_rfl) (fun _ _ _ h => h) (Or.inl ⟨by rfl, ?_⟩) hS ?_
      rotate_left 1
      · intro w' hB; have hd := (HC.out.to wo (by simp)).trans (hB.mono (HC.out.to wo (by simp)).size); have q0 := (hd.cell (p := ⟨gl, i * 2, none⟩) (block_lt_of_cell Q0.out)).trans Q0.out; have q1 := (hd.cell (p := ⟨gl, i * 2 + 1, none⟩) (block_lt_of_cell Q1.out)).trans Q1.out; have q2 := (hd.cell (p := ⟨gt, i * 2, none⟩) (block_lt_of_cell Q2.out)).trans Q2.out; have q3 := (hd.cell (p := ⟨gt, i * 2 + 1, none⟩) (block_lt_of_cell Q3.out)).trans Q3.out; clear hd; (go_simp <;> with_reducible rfl)
      try simp only [Act.put, List.setIfInBounds_toArray, List.set_cons_zero, List.set_cons_succ]
      refine wpAnyH_ready (rs := [8]) (by kernel_rfl) (by simp) (AllReadyH.cons (o := ⟨some 78, _, _, _, _, _⟩) rfl (fun K hK => ?_) AllReadyH.nil)
      go_simp
      refine (ref4_Same _ _ b9 b9 _ _ _ _ _ (BL.out.below hS rfl) (BW.out.below hS rfl)).mono ?_
      rintro e w6 ⟨rfl, hb⟩
      refine hK.out _ _ (hS.trans (hb.mono hS.size)) (fun _ => ?_)
      clear hK K
      have hB := hS.trans (hb.mono hS.size)
      refine wpAnyH_now hB ?_
      clear hS
      have hS := Below.refl w6.heap.size w6
      replace HC := Lib.hid (HC.out.push hB)
      simp only [and_self, decide_true]
      clear hB hb
      try simp only [Act.put, List.setIfInBounds_toArray, List.set_cons_zero, List.set_cons_succ]
      refine wpAnyH_take (i := 9) (oi := ⟨some 79, _, _, _, _, _⟩) (v := ?_) rfl (by kernel_rfl) (by kernel_rfl) (by kernel_rfl) (fun _ _ _ h => h) (Or.inl ⟨by rfl, ?_⟩) hS ?_
      rotate_left 1
      · intro w' hB; have hd := (HC.out.to wo (by simp)).trans (hB.mono (HC.out.to wo (by simp)).size); have q0 := (hd.cell (p := ⟨gl, i * 2, none⟩) (block_lt_of_cell Q0.out)).trans Q0.out; have q1 := (hd.cell (p := ⟨gl, i * 2 + 1, none⟩) (block_lt_of_cell Q1.out)).trans Q1.out; have q2 := (hd.cell (p := ⟨gt, i * 2, none⟩) (block_lt_of_cell Q2.out)).trans Q2.out; have q3 := (hd.cell (p := ⟨gt, i * 2 + 1, none⟩) (block_lt_of_cell Q3.out)).trans Q3.out; clear hd; (go_simp <;> with_reducible rfl)
      try simp only [Act.put, List.setIfInBounds_toArray, List.set_cons_zero, List.set_cons_succ]
      refine wpAnyH_done (by kernel_rfl) (NoPanic.normal ?_) _
      have D6 := Lib.hid (HC.out.to wo (by simp))
      have R6 : Hid (w6.ownsRow w2.heap.size 36 2 (.slice (some ⟨gl, 0, none⟩) nl lc) nl cs) := Lib.hid (own_later HROW.out D6.out (Nat.le_refl _))
      have B6 : Hid (w6.ownsRow w2.heap.size 5 1 (.slice va9 b9.length vc9) b9.length (bvs b9)) := Lib.hid (own_later HB9.out D6.out (Nat.le_refl _))
      have HNE : Hid (∀ k, (Value.slice va9 b9.length vc9).ownBlock = some k → gl ≠ k) := Lib.hid (fun k e e2 => own_ne HROW.out HB9.out (by decide) k e (by rw [e2]; rfl))
      have HGL := Lib.hid hglb
      have C1 : Hid (cs[i * 2 + 1]? = some (.slice va9 b9.length vc9)) := T1
      clear hS HC hglb T1 Q0 Q1 Q2 Q3 BL BW
      have c1 : w6.cell? ⟨gl, i * 2 + 1, none⟩ = some (.slice va9 b9.length vc9) := (own_rowN R6.out rfl).1 _ _ C1.out
      go_wp2_with fail
      clear c1
      go_loopw [14] (fun u wq => ∃ (k : Nat) (bs : List UInt8), u = .int .i64 (k : Int) ∧ k ≤ b9.length ∧ Hid (bs.length = b9.length) ∧ Hid (wq.ownsRow w2.heap.size 5 1 (.slice va9 b9.length vc9) b9.length (bvs bs)) ∧ Hid (w6.grownBy wq (Value.slice va9 b9.length vc9).ownBlock)) (fun u _ => b9.length - (intOf u).toNat)
      case atStart => exact ⟨0, b9, rfl, Nat.zero_le _, Lib.hid rfl, B6, Lib.hid (World.grownBy.refl _ _)⟩
      case round =>
        obtain ⟨j, bs, rfl, hj, HBL, HOR, HGR⟩ := hrel
        have RR : Hid (wr.ownsRow w2.heap.size 36 2 (.slice (some ⟨gl, 0, none⟩) nl lc) nl cs) := Lib.hid (own_grown R6.out HGR.out (fun k e e2 => HNE.out k e2 (by simpa [Value.ownBlock] using e)))
        have c1 : wr.cell? ⟨gl, i * 2 + 1, none⟩ = some (.slice va9 b9.length vc9) := (own_rowN RR.out rfl).1 _ _ C1.out
        by_cases hjl : j < b9.length
        · have hji : (j : Int) < (b9.length : Int) := by omega
          obtain ⟨g, hg, _, hcell, hfz, _⟩ := own_cell HOR.out j (.int .u8 ((bs[j]'(by rw [HBL.out]; exact hjl)).toNat : Int)) (by simp [bvs]; exact ⟨_, List.getElem?_eq_getElem (by rw [HBL.out]; exact hjl), rfl⟩)
          subst hg
          have hf := hfz j
          clear hfz
          go_wp2_with fail
          refine ⟨⟨j + 1, bs.set j 90, by simp, by omega, Lib.hid (by simpa using HBL.out), Lib.hid (own_put HOR.out j 90 90 rfl), Lib.hid (grown_trans HGR.out (set_grown wr g j (.int .u8 90)))⟩, ?_⟩
          have q1 : (intOf (Value.int .i64 ((j : Int) + 1))).toNat = j + 1 := by simp [intOf]
          have q2 : (intOf (Value.int .i64 (j : Int))).toNat = j := by simp [intOf]
          rw [q1, q2]; omega
        · have hji : ¬ (j : Int) < (b9.length : Int) := by omega
          have HBm : Hid (bs.length + 3 ≤ 70368744177664) := Lib.hid (by have h1 := HBL.out; omega)
          have RA : Hid ((wr.alloc (.cells #[.int .u8 1, .int .u8 2, .int .u8 3] 5)).ownsRow w2.heap.size 36 2 (.slice (some ⟨gl, 0, none⟩) nl lc) nl cs) := Lib.hid (RR.out.alloc _)
          have ca := (own_rowN RA.out rfl).1 _ _ C1.out
          go_wp2_with (at_builtin; refine wpList_appb rfl _ _ 22 22 rfl w2.heap.size 5 BT.out (.slice va9 b9.length vc9) bs rfl ((own_len2 HOR.out HBL.out).alloc _) _ [1, 2, 3] rfl ((BytesAt.fresh wr 5 (0, 0) [1, 2, 3] _ rfl).src Try.underlying22 3) (by have := HBm.out; simp; omega) (by have h1 := HGR.out.size; have h2 := D6.out.size; have h3 := HK.out.size; have h4 := D5.out.size; have h5 := D4.out.size; have h6 := D3.out.size; simp; omega) ?_; intro v7 w7 hown hgr hb _; have RW : Hid (w7.ownsRow w2.heap.size 36 2 (.slice (some ⟨gl, 0, none⟩) nl lc) nl cs) := Lib.hid (own_grown RA.out hgr (fun k e e2 => HNE.out k e2 (by simpa [Value.ownBlock] using e))); have G7 := Lib.hid hgr; obtain ⟨va7, vc7, rfl⟩ := own_shape hown; have cw := (own_rowN RW.out rfl).1 _ _ C1.out; have fw := (own_rowN RW.out rfl).2.1 (i * 2 + 1); clear hown hgr hb)
          have KR : KeepS (fun k => k < wo.heap.size ∧ some k ≠ (Value.slice va9 b9.length vc9).ownBlock ∧ some k ≠ (Value.slice (some ⟨gl, 0, none⟩) nl lc).ownBlock) wo (w7.setCell ⟨gl, i * 2 + 1, none⟩ (.slice va7 (bs.length + 3) vc7)) := by
            have s1 := D6.out.size
            have s2 := HGR.out.size
            have s3 := G7.out.size
            rw [World.size_alloc] at s3
            refine KeepS.grown (B := w7) (KeepS.grown (B := wr.alloc (.cells #[.int .u8 1, .int .u8 2, .int .u8 3] 5)) (KeepS.trans (KeepS.grown (KeepS.below D6.out (fun k hk => hk.1)) HGR.out (fun k hk => ⟨by omega, hk.2.1⟩)) (KeepS.below (below_new wr _) (fun k hk => by omega))) G7.out (fun k hk => ⟨by simp; omega, hk.2.1⟩)) (set_grown w7 gl (i * 2 + 1) _) (fun k hk => ⟨by omega, hk.2.2⟩)
          refine ⟨⟨i + 1, by simp, by omega, Lib.hid (HK.out.trans (KR.sub ?_)), Lib.hid (RestAt.next HRest.out HD.out HFL.out.apart KR ⟨cs.set (i * 2 + 1) (.slice va7 (bs.length + 3) vc7), ?_, ?_⟩)⟩, ?_⟩
          · have s1 := HK.out.size
            have s2 := D3.out.size
            have s3 := D4.out.size
            have s4 := D5.out.size
            rintro k hk
            have hk' : k < w2.heap.size ∨ (w3.heap.size ≤ k ∧ k < w5.heap.size) := hk
            refine ⟨by omega, fun e => ?_, fun e => ?_⟩
            · have := HBB.out k e.symm; omega
            · have h1 := own_base HFL.out.row k e.symm
              have h2 := own_lt HFL.out.row k e.symm
              omega
          · rw [HXL.out]; exact own_setN RW.out (i * 2 + 1) _
          · intro j2 hj2
            rw [List.getElem?_set_ne (by omega)]
            exact HCS.out j2 (by omega)
          · have q1 : (intOf (Value.int .i64 ((i : Int) + 1))).toNat = i + 1 := by simp [intOf]
            have q2 : (intOf (Value.int .i64 (i : Int))).toNat = i := by simp [intOf]
            rw [q1, q2]; omega
    · have hii : ¬ (i : Int) < (nl : Int) := by omega
      obtain ⟨W6, rfl⟩ : ∃ W : World, W = wr := ⟨_, rfl⟩
      have K6 : Hid (KeepS (Else w2.heap.size w3.heap.size w5) w5 W6) := Lib.hid HK.out
      have Z5 : Hid (w.heap.size ≤ w2.heap.size ∧ w2.heap.size ≤ w3.heap.size ∧ w3.heap.size ≤ w4.heap.size ∧ w4.heap.size ≤ w5.heap.size ∧ w5.heap.size ≤ W6.heap.size) := Lib.hid ⟨D2.out.size, D3.out.size, D4.out.size, D5.out.size, K6.out.size⟩
      have D6 : Hid (Below w.heap.size w W6) := Lib.hid (by
        have h1 : Below w.heap.size w w5 := ((D2.out.trans (D3.out.mono D2.out.size)).trans (D4.out.mono (Nat.le_trans D2.out.size D3.out.size))).trans (D5.out.mono (Nat.le_trans D2.out.size (Nat.le_trans D3.out.size D4.out.size)))
        exact h1.trans ⟨K6.out.os, K6.out.tape, K6.out.output, K6.out.size, fun k hk => K6.out.block k (.inl (by have := D2.out.size; omega))⟩)
      have O6 : Hid (W6.ownsRow w.heap.size 5 1 (.slice (some ⟨g2, 0, none⟩) (l.length + 1) c2) (l.length + 1) (bvs (l ++ [119]))) := Lib.hid (by
        refine own_keep (own_later (own_later (own_later O2.out D3.out (Nat.le_refl _)) D4.out (Nat.le_refl _)) D5.out (Nat.le_refl _)) K6.out (fun k e => .inl ?_)
        obtain rfl : g2 = k := by simpa [Value.ownBlock] using e
        exact HG2.out.2)
      have F6 : Hid (FrsAt W6 w3.heap.size (.slice ta nl tc) xt) := Lib.hid ((HFT.out.below D5.out rfl).keepS K6.out (fun k h1 h2 => .inr ⟨h1, h2⟩))
      have X6 : Hid (Boxed W6 X 22 (.slice va l.length vc)) := Lib.hid (K6.out.box HXB.out (.inr ⟨by have := Z5.out; have := HXs.out; omega, HXB.out.lt⟩))
      have V6 : Hid (W6.ownsRow w4.heap.size 5 1 (.slice va l.length vc) l.length (bvs l)) := Lib.hid (own_keep HVA.out K6.out (fun k e => .inr ⟨by have := own_base HVA.out k e; have := Z5.out; omega, own_lt HVA.out k e⟩))
      have Z6 : Hid (g2 < w2.heap.size ∧ w.heap.size ≤ g2 ∧ w2.heap.size ≤ w3.heap.size ∧ w3.heap.size ≤ w4.heap.size ∧ w4.heap.size ≤ X) := Lib.hid ⟨HG2.out.2, HG2.out.1, D3.out.size, D4.out.size, HXs.out⟩
      have A6 : Hid (BytesAt W6 a l) := Lib.hid (H.out.below D6.out rfl)
      clear HRest HK K6 D2 D3 D4 D5 O1 D1 O2 B2 B4 HFL HFT HXB HVA H HG2
      have B6 : Hid (BytesAt W6 (some ⟨g2, 0, none⟩) l) := Lib.hid (by have := (own_bytes O6.out).take l.length; rwa [List.take_left] at this)
      go_wp2_with fail
      refine (frame_One l (some ⟨g2, 0, none⟩) c2 W6 B6.out (by omega) (by omega)).mono ?_
      rintro e w7 ⟨v1, rfl, hown, hb⟩
      have HON := one_scan l
      rw [HR.out] at HON
      have HN := Lib.hid HON
      have HOW := Lib.hid hown
      have D7 := Lib.hid hb
      clear HON hown hb
      obtain ⟨vo, co, hvo⟩ := own_shape HOW.out
      obtain ⟨q, hq⟩ : ∃ q, oneF l = q := ⟨_, rfl⟩
      rw [hq] at HN HOW hvo ⊢
      clear hq
      obtain ⟨k1, body, e1⟩ := q
      dsimp only at HN HOW hvo ⊢
      subst hvo
      have D8 : Hid (Below W6.heap.size W6 (w7.alloc (.cells #[.int .i64 (k1 : Int), .slice vo body.length co] 36))) := Lib.hid (D7.out.alloc D7.out.size _)
      have s1 := (((own_bytes O6.out).below D8.out rfl).str (l.length + 1) c2 (by simp))
      have s2 := ((A6.out.below D8.out rfl).str l.length cap rfl)
      have hcat : (⟨l.toArray⟩ : ByteArray) ++ (⟨#[119]⟩ : ByteArray) = ⟨(l ++ [119]).toArray⟩ := by apply ByteArray.ext; simp
      have hnl2 : RL.length = nl := by have h1 := HXL.out; rw [← HML.out, List.length_map]; exact h1
      obtain ⟨W8, hW8⟩ : ∃ W, w7.alloc (.cells #[.int .i64 (k1 : Int), .slice vo body.length co] 36) = W := ⟨_, rfl⟩
      rw [hW8] at D8 s1 s2
      have Q1 : Hid (W8.heap[w7.heap.size]? = some (.cells #[.int .i64 (k1 : Int), .slice vo body.length co] 36 (0, 0))) := Lib.hid (by rw [← hW8]; exact heap_alloc_new w7 _)
      have BL : Hid (BytesAt W8 vo body) := Lib.hid (by rw [← hW8]; exact own_bytes (HOW.out.alloc _))
      have hcase : (RL.length = 1 ∧ RW = 0) ∨ (nl ≠ 1) ∨ (nl = 1 ∧ RW ≠ 0) := by omega
      rcases hcase with hone | hone | hone
      case' inl =>
        obtain ⟨k2, body2, hr1, hr2⟩ := HN.out.1 hone
        simp only [Prod.mk.injEq] at hr2
        obtain ⟨rfl, rfl, rfl⟩ := hr2
        obtain ⟨ho1, rfl⟩ := hone
        obtain rfl : nl = 1 := by omega
        obtain ⟨x1, hx1⟩ : ∃ x, xt = [x] := List.length_eq_one_iff.1 HXT.out
        have hx2 : plainFR x1 = (0, k1, body) := by have h1 := HMT.out; rw [hx1, hr1] at h1; simpa using h1
        obtain ⟨p9, k9, v9, b9⟩ := x1
        simp only [plainFR, Prod.mk.injEq] at hx2
        obtain ⟨rfl, rfl, rfl⟩ := hx2
        have F7 : FrsAt W6 w3.heap.size (.slice ta 1 tc) [(0, k9, v9, b9)] := by rw [← hx1]; exact F6.out
        have HB9 := F7.body _ List.mem_cons_self
        obtain ⟨va9, vc9, hv9⟩ := own_shape HB9
        dsimp only at hv9
        subst hv9
        have HR1 := Lib.hid hr1
        have HX1 := Lib.hid hx1
        obtain ⟨gt, hgt, _, _⟩ := own_cellN F7.row 0 _ rfl
        subst hgt
        have D9 := Lib.hid D8.out
        simp only [show (((0 : Nat)) : Int) = 0 from rfl, show (((1 : Nat)) : Int) = 1 from rfl]
        go_wp2_with fail
        have R8 := own_later F7.row D9.out (Nat.le_refl _)
        have Q2 := Lib.hid ((own_rowN R8 rfl).1 0 _ rfl)
        have Q3 := Lib.hid ((own_rowN R8 rfl).1 1 _ rfl)
        have BW := Lib.hid (own_bytes (own_later HB9 D9.out (Nat.le_refl _)))
        have HC : Hid (Chain [W8] W8) := Lib.hid (Chain.one W8)
        clear hcat s1 s2 hr1 hx1 hW8 R8 F7 HB9 HN ho1
        refine wp_region_noPanic ?_
        refine wp_region_held_drew (S := fun w' => Below W8.heap.size W8 w') (by kernel_rfl) (Below.refl _ _).drew (fun hS => ?_)
        refine wpAnyH_take (i := 0) (oi := ⟨some 129, _, _, _, _, _⟩) (v := ?_) rfl (by kernel_rfl) (by kernel_rfl) (by kernel_rfl) (fun _ _ _ h => h) (Or.inl ⟨by rfl, ?_⟩) hS ?_
        rotate_left 1
        · intro w' hB; have hd := (HC.out.to W8 (by simp)).trans (hB.mono (HC.out.to W8 (by simp)).size); obtain ⟨x0, x1⟩ := box2 (boxStays Q1.out hd); have q2 := (hd.cell (p := ⟨gt, 0, none⟩) (block_lt_of_cell Q2.out)).trans Q2.out; have q3 := (hd.cell (p := ⟨gt, 1, none⟩) (block_lt_of_cell Q3.out)).trans Q3.out; clear hd; (go_simp <;> with_reducible rfl)
        try simp only [Act.put, List.setIfInBounds_toArray, List.set_cons_zero, List.set_cons_succ]
        refine wpAnyH_take (i := 1) (oi := ⟨some 130, _, _, _, _, _⟩) (v := ?_) rfl (by kernel_rfl) (by kernel_rfl) (by kernel_rfl) (fun _ _ _ h => h) (Or.inl ⟨by rfl, ?_⟩) hS ?_
        rotate_left 1
        · intro w' hB; have hd := (HC.out.to W8 (by simp)).trans (hB.mono (HC.out.to W8 (by simp)).size); obtain ⟨x0, x1⟩ := box2 (boxStays Q1.out hd); have q2 := (hd.cell (p := ⟨gt, 0, none⟩) (block_lt_of_cell Q2.out)).trans Q2.out; have q3 := (hd.cell (p := ⟨gt, 1, none⟩) (block_lt_of_cell Q3.out)).trans Q3.out; clear hd; (go_simp <;> with_reducible rfl)
        try simp only [Act.put, List.setIfInBounds_toArray, List.set_cons_zero, List.set_cons_succ]
        refine wpAnyH_take (i := 2) (oi := ⟨some 131, _, _, _, _, _⟩) (v := ?_) rfl (by kernel_rfl) (by kernel_rfl) (by kernel_rfl) (fun _ _ _ h => h) (Or.inl ⟨by rfl, ?_⟩) hS ?_
        rotate_left 1
        · intro w' hB; have hd := (HC.out.to W8 (by simp)).trans (hB.mono (HC.out.to W8 (by simp)).size); obtain ⟨x0, x1⟩ := box2 (boxStays Q1.out hd); have q2 := (hd.cell (p := ⟨gt, 0, none⟩) (block_lt_of_cell Q2.out)).trans Q2.out; have q3 := (hd.cell (p := ⟨gt, 1, none⟩) (block_lt_of_cell Q3.out)).trans Q3.out; clear hd; (go_simp <;> with_reducible rfl)
        try simp only [Act.put, List.setIfInBounds_toArray, List.set_cons_zero, List.set_cons_succ]
        refine wpAnyH_take (i := 3) (oi := ⟨some 132, _, _, _, _, _⟩) (v := ?_) rfl (by kernel_rfl) (by kernel_rfl) (by kernel_rfl) (fun _ _ _ h => h) (Or.inl ⟨by rfl, ?_⟩) hS ?_
        rotate_left 1
        · intro w' hB; have hd := (HC.out.to W8 (by simp)).trans (hB.mono (HC.out.to W8 (by simp)).size); obtain ⟨x0, x1⟩ := box2 (boxStays Q1.out hd); have q2 := (hd.cell (p := ⟨gt, 0, none⟩) (block_lt_of_cell Q2.out)).trans Q2.out; have q3 := (hd.cell (p := ⟨gt, 1, none⟩) (block_lt_of_cell Q3.out)).trans Q3.out; clear hd; (go_simp <;> with_reducible rfl)
        try simp only [Act.put, List.setIfInBounds_toArray, List.set_cons_zero, List.set_cons_succ]
        refine wpAnyH_ready (rs := [4]) (by kernel_rfl) (by simp) (AllReadyH.cons (o := ⟨some 133, _, _, _, _, _⟩) rfl (fun K hK => ?_) AllReadyH.nil)
        go_simp
        refine (ref4_Same _ _ b9 b9 _ _ _ _ _ (BL.out.below hS rfl) (BW.out.below hS rfl)).mono ?_
        rintro e w10 ⟨rfl, hb⟩
        refine hK.out _ _ (hS.trans (hb.mono hS.size)) (fun _ => ?_)
        clear hK K
        have hB := hS.trans (hb.mono hS.size)
        refine wpAnyH_now hB ?_
        clear hS
        have hS := Below.refl w10.heap.size w10
        replace HC := Lib.hid (HC.out.push hB)
        simp only [and_self, decide_true]
        clear hB hb
        try simp only [Act.put, List.setIfInBounds_toArray, List.set_cons_zero, List.set_cons_succ]
        refine wpAnyH_take (i := 5) (oi := ⟨some 134, _, _, _, _, _⟩) (v := ?_) rfl (by kernel_rfl) (by kernel_rfl) (by kernel_rfl) (fun _ _ _ h => h) (Or.inl ⟨by rfl, ?_⟩) hS ?_
        rotate_left 1
        · intro w' hB; have hd := (HC.out.to W8 (by simp)).trans (hB.mono (HC.out.to W8 (by simp)).size); obtain ⟨x0, x1⟩ := box2 (boxStays Q1.out hd); have q2 := (hd.cell (p := ⟨gt, 0, none⟩) (block_lt_of_cell Q2.out)).trans Q2.out; have q3 := (hd.cell (p := ⟨gt, 1, none⟩) (block_lt_of_cell Q3.out)).trans Q3.out; clear hd; (go_simp <;> with_reducible rfl)
        try simp only [Act.put, List.setIfInBounds_toArray, List.set_cons_zero, List.set_cons_succ]
        refine wpAnyH_take (i := 6) (oi := ⟨some 135, _, _, _, _, _⟩) (v := ?_) rfl (by kernel_rfl) (by kernel_rfl) (by kernel_rfl) (fun _ _ _ h => h) (Or.inl ⟨by rfl, ?_⟩) hS ?_
        rotate_left 1
        · intro w' hB; have hd := (HC.out.to W8 (by simp)).trans (hB.mono (HC.out.to W8 (by simp)).size); obtain ⟨x0, x1⟩ := box2 (boxStays Q1.out hd); have q2 := (hd.cell (p := ⟨gt, 0, none⟩) (block_lt_of_cell Q2.out)).trans Q2.out; have q3 := (hd.cell (p := ⟨gt, 1, none⟩) (block_lt_of_cell Q3.out)).trans Q3.out; clear hd; (go_simp <;> with_reducible rfl)
        try simp only [Act.put, List.setIfInBounds_toArray, List.set_cons_zero, List.set_cons_succ]
        refine wpAnyH_take (i := 7) (oi := ⟨some 136, _, _, _, _, _⟩) (v := ?_) rfl (by kernel_rfl) (by kernel_rfl) (by kernel_rfl) (fun _ _ _ h => h) (Or.inl ⟨by rfl, ?_⟩) hS ?_
        rotate_left 1
        · intro w' hB; have hd := (HC.out.to W8 (by simp)).trans (hB.mono (HC.out.to W8 (by simp)).size); obtain ⟨x0, x1⟩ := box2 (boxStays Q1.out hd); have q2 := (hd.cell (p := ⟨gt, 0, none⟩) (block_lt_of_cell Q2.out)).trans Q2.out; have q3 := (hd.cell (p := ⟨gt, 1, none⟩) (block_lt_of_cell Q3.out)).trans Q3.out; clear hd; (go_simp <;> with_reducible rfl)
        try simp only [Act.put, List.setIfInBounds_toArray, List.set_cons_zero, List.set_cons_succ]
        refine wpAnyH_ready (rs := [8]) (by kernel_rfl) (by simp) (AllReadyH.cons (o := ⟨some 137, _, _, _, _, _⟩) rfl (fun K hK => ?_) AllReadyH.nil)
        go_simp
        refine (fnumB _ _).mono ?_
        rintro e w11 ⟨rfl, hb⟩
        refine hK.out _ _ (hS.trans (hb.mono hS.size)) (fun _ => ?_)
        clear hK K
        have hB := hS.trans (hb.mono hS.size)
        refine wpAnyH_now hB ?_
        clear hS
        have hS := Below.refl w11.heap.size w11
        replace HC := Lib.hid (HC.out.push hB)
        clear hB hb
        try simp only [Act.put, List.setIfInBounds_toArray, List.set_cons_zero, List.set_cons_succ]
        refine wpAnyH_take (i := 9) (oi := ⟨some 138, _, _, _, _, _⟩) (v := ?_) rfl (by kernel_rfl) (by kernel_rfl) (by kernel_rfl) (fun _ _ _ h => h) (Or.inl ⟨by rfl, ?_⟩) hS ?_
        rotate_left 1
        · intro w' hB; have hd := (HC.out.to W8 (by simp)).trans (hB.mono (HC.out.to W8 (by simp)).size); obtain ⟨x0, x1⟩ := box2 (boxStays Q1.out hd); have q2 := (hd.cell (p := ⟨gt, 0, none⟩) (block_lt_of_cell Q2.out)).trans Q2.out; have q3 := (hd.cell (p := ⟨gt, 1, none⟩) (block_lt_of_cell Q3.out)).trans Q3.out; clear hd; (go_simp <;> with_reducible rfl)
        try simp only [Act.put, List.setIfInBounds_toArray, List.set_cons_zero, List.set_cons_succ]
        refine wpAnyH_take (i := 10) (oi := ⟨some 139, _, _, _, _, _⟩) (v := ?_) rfl (by kernel_rfl) (by kernel_rfl) (by kernel_rfl) (fun _ _ _ h => h) (Or.inl ⟨by rfl, ?_⟩) hS ?_
        rotate_left 1
        · intro w' hB; have hd := (HC.out.to W8 (by simp)).trans (hB.mono (HC.out.to W8 (by simp)).size); obtain ⟨x0, x1⟩ := box2 (boxStays Q1.out hd); have q2 := (hd.cell (p := ⟨gt, 0, none⟩) (block_lt_of_cell Q2.out)).trans Q2.out; have q3 := (hd.cell (p := ⟨gt, 1, none⟩) (block_lt_of_cell Q3.out)).trans Q3.out; clear hd; (go_simp <;> with_reducible rfl)
        try simp only [Act.put, List.setIfInBounds_toArray, List.set_cons_zero, List.set_cons_succ]
        refine wpAnyH_done (by kernel_rfl) (NoPanic.normal ?_) _
        have D11 : Hid (Below W6.heap.size W6 w11) := Lib.hid (D9.out.trans ((HC.out.to W8 (by simp)).mono D9.out.size))
        clear hS HC Q1 Q2 Q3 BL BW D9
        go_wp2_with fail
      case' inr.inl =>
        have hr2 := HN.out.2 (by omega)
        simp only [Prod.mk.injEq] at hr2
        obtain ⟨rfl, rfl, rfl⟩ := hr2
        have hni : ((nl : Int) == 1) = false := by simp; omega
        simp only [show (((0 : Nat)) : Int) = 0 from rfl, show (((4 : Nat)) : Int) = 4 from rfl, List.length_nil] at hW8 Q1 ⊢
        obtain ⟨x0, x1⟩ := box2 Q1.out
        go_wp2_with (refine (fnumB _ _).mono ?_; rintro e w11 ⟨rfl, hb⟩; have D11 : Hid (Below W6.heap.size W6 w11) := Lib.hid (D8.out.trans (hb.mono D8.out.size)))
      case' inr.inr =>
        obtain ⟨rfl, hrw⟩ := hone
        have hr2 := HN.out.2 (by omega)
        simp only [Prod.mk.injEq] at hr2
        obtain ⟨rfl, rfl, rfl⟩ := hr2
        have hni : ((RW : Int) == 0) = false := by simp; omega
        simp only [show (((0 : Nat)) : Int) = 0 from rfl, show (((4 : Nat)) : Int) = 4 from rfl, show (((1 : Nat)) : Int) = 1 from rfl, List.length_nil] at hW8 Q1 ⊢
        obtain ⟨x0, x1⟩ := box2 Q1.out
        go_wp2_with (refine (fnumB _ _).mono ?_; rintro e w11 ⟨rfl, hb⟩; have D11 : Hid (Below W6.heap.size W6 w11) := Lib.hid (D8.out.trans (hb.mono D8.out.size)))
      all_goals
        obtain ⟨W7, rfl⟩ : ∃ W : World, W = w11 := ⟨_, rfl⟩
        have O7 : Hid (W7.ownsRow w.heap.size 5 1 (.slice (some ⟨g2, 0, none⟩) (l.length + 1) c2) (l.length + 1) (bvs (l ++ [119]))) := Lib.hid (own_later O6.out D11.out (Nat.le_refl _))
        go_loopw [17] (fun u wq => ∃ (k : Nat) (bs : List UInt8), u = .int .i64 (k : Int) ∧ k ≤ l.length + 1 ∧ Hid (bs.length = l.length + 1) ∧ Hid (wq.ownsRow w.heap.size 5 1 (.slice (some ⟨g2, 0, none⟩) (l.length + 1) c2) (l.length + 1) (bvs bs)) ∧ Hid (W7.grownBy wq (some g2))) (fun u _ => l.length + 1 - (intOf u).toNat)
        case atStart => exact ⟨0, l ++ [119], rfl, Nat.zero_le _, Lib.hid (by simp), O7, Lib.hid (World.grownBy.refl _ _)⟩
        case round =>
          obtain ⟨j, bs, rfl, hj, HBL, HOR, HGR⟩ := hrel
          by_cases hjl : j < l.length + 1
          · have hji : (j : Int) < (l.length : Int) + 1 := by omega
            obtain ⟨hcell, hf⟩ := own_byte HOR.out j (by rw [HBL.out]; exact hjl)
            generalize bs[j]'_ = old at *
            go_wp2_with fail
            refine ⟨⟨j + 1, bs.set j 102, by simp, by omega, Lib.hid (by simpa using HBL.out), Lib.hid (own_put HOR.out j 102 102 rfl), Lib.hid (HGR.out.trans (set_grown wr g2 j (.int .u8 102)))⟩, ?_⟩
            have q1 : (intOf (Value.int .i64 ((j : Int) + 1))).toNat = j + 1 := by simp [intOf]
            have q2 : (intOf (Value.int .i64 (j : Int))).toNat = j := by simp [intOf]
            rw [q1, q2]; omega
          · have hji : ¬ (j : Int) < (l.length : Int) + 1 := by omega
            obtain ⟨W8, rfl⟩ : ∃ W : World, W = wr := ⟨_, rfl⟩
            have X8 : Hid (Boxed W8 X 22 (.slice va l.length vc)) := Lib.hid (Boxed.kept (boxStays X6.out D11.out) HGR.out (fun e => by cases e; have := Z6.out; omega))
            have V8 : Hid (W8.ownsRow w4.heap.size 5 1 (.slice va l.length vc) l.length (bvs l)) := Lib.hid (own_grown (own_later V6.out D11.out (Nat.le_refl _)) HGR.out (fun k e e2 => by cases e2; have := own_base V6.out _ e; have := Z6.out; omega))
            have F8 := ((F6.out.below D11.out rfl).grown HGR.out (fun g e => by
              cases e
              exact ⟨fun e => by have := own_base F6.out.row _ e; have := Z6.out; omega, fun y hy e => by have := own_base (F6.out.body y hy) _ e; have := Z6.out; omega⟩))
            have F8 := Lib.hid F8
            have D8' : Hid (Below w.heap.size w W8) := Lib.hid ((D6.out.trans (D11.out.mono D6.out.size)).trans ⟨HGR.out.os, HGR.out.tape, HGR.out.output, HGR.out.size, fun k hk => HGR.out.block k (by have := D6.out.size; have := D11.out.size; omega) (fun e => by cases e; have := Z6.out; omega)⟩)
            have hvc : l.length ≤ vc := own_len V6.out
            have HO := Lib.hid (fun (lv : Int) (W : World) (hb : Below W8.heap.size W8 W) => over_true l (by omega) X va vc _ _ xt w3.heap.size lv W (boxStays X8.out hb) ((own_bytes V8.out).below hb rfl) hvc (by rw [HR.out]; exact HMT.out) (by rw [HXT.out]; exact F8.out.below hb rfl))
            rw [HXT.out] at HO
            (try clear HN)
            clear HML HMT HXL HXT HR HSL Z5 F6 X6 V6 O6 A6 B6 O7 HOR HBL
            go_wp2_with fail
            refine (HO.out _ _ (Below.refl _ _)).mono ?_
            rintro e w12 ⟨rfl, hb⟩
            have D12 := Lib.hid hb
            clear hb
            go_wp2_with fail
            refine (HO.out _ _ D12.out).mono ?_
            rintro e w13 ⟨rfl, hb⟩
            have D13 := Lib.hid (D12.out.trans (hb.mono D12.out.size))
            clear hb
            go_wp2_with fail
            refine (frame_known _).mono ?_
            rintro e w14 ⟨rfl, hb⟩
            have D14 := Lib.hid (D13.out.trans (hb.mono D13.out.size))
            clear hb
            go_wp2_with fail
            go_ret
            exact ⟨rfl, D8'.out.trans (D14.out.mono D8'.out.size)⟩
set_option maxRecDepth 100000 in
set_option maxHeartbeats 1000000 in
theorem scans_any (l : List UInt8) (a : Option Addr) (cap : Nat) (leave : Int) (w : World) (h : BytesAt w a l) (hcap : l.length ≤ cap) (hm : l.length ≤ maxLen) :
    Calls Try.prog 3 #[.slice a l.length cap, .int .i64 leave] w fun e w' => e = .returned (.bool true) ∧ Below w.heap.size w w' := by
  by_cases hl : l.length ≤ 60000
  · exact scans_walk l a cap leave w h hcap hl
  · have hli : (60000 : Int) < (l.length : Int) := by omega
    clear h hm
    go_enter Try.func3, Try.ntmps3
    go_wp2_with fail
    refine (frame_known _).mono ?_
    rintro e w1 ⟨rfl, hb⟩
    go_wp2_with fail
    go_ret
    exact ⟨rfl, hb⟩
end Go.Proofs.Ytpbjhfajekfjeaa

