/- Words, contracts and walks that the proof stands on (KqF). -/
import Derived.Test.YtjlliohjeiclaaaGreatDoorKB10
import Derived.Test.YtjlliohjeiclaaaGreatDoorKB12
import Derived.Test.YtjlliohjeiclaaaGreatDoorKB14
namespace Go.Proofs.YtjlliohjeiclaaaGreatDoor
open Go.RowKit St Pm Ku Kn
namespace Kn
def goneG (d : Int) (t : ByteArray) (q : Nat) (x : Ev) : Bool := (decide (d = 3) && decide (x.2 = t)) || (decide (d = 4) || (decide (d = 6) && decide (q = 0)))
theorem base_step (d : Int) (t : ByteArray) (l : List Ev) (q : Nat) (h : q < l.length) : baseG d t (l.take (q + 1)) = baseG d t (l.take q) ++ (if goneG d t q l[q] = true then [] else [l[q]]) := by
 unfold baseG goneG
 rw [List.take_succ_eq_append_getElem h]
 by_cases h3 : d = 3
 · subst h3
   rw [if_pos rfl, if_pos rfl]
   unfold delG
   rw [List.filter_append]
   by_cases hx : l[q].2 = t <;> simp [hx]
 · by_cases h4 : d = 4
   · subst h4
     simp
   · by_cases h6 : d = 6
     · subst h6
       rw [if_neg h3, if_neg h4, if_pos rfl, if_neg h3, if_neg h4, if_pos rfl]
       cases q with
       | zero => simp
       | succ q =>
        have hl : (l.take (q + 1)) ≠ [] := by intro e; have := congrArg List.length e; rw [List.length_take, List.length_nil] at this; omega
        rw [List.drop_append_of_le_length (by rw [List.length_take]; omega)]
        simp
     · simp [h3, h4, h6]
theorem base_nil (d : Int) (t : ByteArray) : baseG d t [] = [] := by
 unfold baseG
 split
 · rfl
 · split
   · rfl
   · split <;> rfl
theorem base_len (d : Int) (t : ByteArray) (l : List Ev) : (baseG d t l).length ≤ l.length := by
 unfold baseG
 split
 · exact List.length_filter_le _ _
 · split
   · exact Nat.zero_le _
   · split
     · rw [List.length_drop]; omega
     · exact Nat.le_refl _
end Kn
open Kn
theorem own_slice3 {w : World} {B n : Nat} {e : TypeId} {v : Value} {xs : List Value} {size : Nat} (h : w.ownsRow B e size v (n + 1) xs) : ∃ a c, v = .slice a (n + 1) c ∧ n + 1 ≤ c ∧ (∀ ad, a = some ad → B ≤ ad.block) ∧ True := by
 obtain ⟨g, c, hv, h1, _, h2, _⟩ := own_form h (by omega)
 exact ⟨_, c, hv, h2, fun ad had => (by cases had; exact h1), trivial⟩
set_option maxRecDepth 100000 in
set_option maxHeartbeats 16000000 in
theorem kr_Apply (k m : Int) (l : List Ev) (a : Option Addr) (n c : Nat) (s : Sv) (pl : List ByteArray) (pk : Int) (px : ByteArray) (pd pm : Int) (pt : ByteArray) (pa : Option Addr) (pn pc : Nat) (w : World)
 (hl : CellsAt w a (elsV l)) (hn : n = l.length) (hb : n ≤ 100000) (hz : ∀ e ∈ l, e.1.l.size ≤ 9223372036854775807) (hs : s.l.size ≤ 9223372036854775807)
 (hp : CellsAt w pa (txV pl)) (hpn : pn = pl.length) :
 Calls Tryz.prog 38 #[.agg #[.int .i64 k, .int .i64 m, .slice a n c], .agg #[.int .i64 s.g, .int .i64 s.r, .string s.l, .int .i64 s.n, .int .i64 s.i], .agg #[.slice pa pn pc, .int .i64 pk, .string px, .int .i64 pd, .int .i64 pm, .string pt]] w fun e w' => ValOut w w' (applyG k m l s (checkK pl pk px pd pm pt) pk pd pm pt) e := by
 have HL := Lib.hid hl
 have HN := Lib.hid hn
 have HZ := Lib.hid hz
 have HSZ := Lib.hid hs
 have HP := Lib.hid hp
 have HPN := Lib.hid hpn
 obtain ⟨ce, hce⟩ : ∃ r, checkK pl pk px pd pm pt = r := ⟨_, rfl⟩
 rw [hce]
 have CE := Lib.hid hce
 obtain ⟨re, hre⟩ : ∃ r, applyG k m l s ce pk pd pm pt = r := ⟨_, rfl⟩
 rw [hre]
 have RE := Lib.hid hre
 clear hl hn hz hs hp hpn hce hre
 have HC : Hid (Chain [w] w) := Lib.hid (Chain.one w)
 go_enter Tryz.func38, Tryz.ntmps38
 go_upto_region 1 with (fail)
 obtain ⟨z, hz⟩ : ∃ c, w.heap.size = c := ⟨_, rfl⟩
 try rw [hz]
 obtain ⟨w1, hw1⟩ : ∃ X, allocs w [.cells #[.int .i64 k, .int .i64 m, .slice a n c] 79, .cells #[.int .i64 s.g, .int .i64 s.r, .string s.l, .int .i64 s.n, .int .i64 s.i] 43, .cells #[.slice pa pn pc, .int .i64 pk, .string px, .int .i64 pd, .int .i64 pm, .string pt] 82, .cells #[.int .i64 0, .int .i64 0, .slice none 0 0] 79] = X := ⟨_, rfl⟩
 rw [show (((w.alloc (.cells #[.int .i64 k, .int .i64 m, .slice a n c] 79)).alloc (.cells #[.int .i64 s.g, .int .i64 s.r, .string s.l, .int .i64 s.n, .int .i64 s.i] 43)).alloc (.cells #[.slice pa pn pc, .int .i64 pk, .string px, .int .i64 pd, .int .i64 pm, .string pt] 82)).alloc (.cells #[.int .i64 0, .int .i64 0, .slice none 0 0] 79) = w1 from hw1]
 have hb : Below w.heap.size w w1 := by rw [← hw1]; exact allocs_below _ _
 have HV : Hid (w1.heap[z]? = some (.cells #[.int .i64 k, .int .i64 m, .slice a n c] 79 (0, 0))) := Lib.hid (by have := allocs_get [.cells #[.int .i64 k, .int .i64 m, .slice a n c] 79, .cells #[.int .i64 s.g, .int .i64 s.r, .string s.l, .int .i64 s.n, .int .i64 s.i] 43, .cells #[.slice pa pn pc, .int .i64 pk, .string px, .int .i64 pd, .int .i64 pm, .string pt] 82, .cells #[.int .i64 0, .int .i64 0, .slice none 0 0] 79] w 0 _ rfl; rw [hw1, hz] at this; exact this)
 have HS : Hid (w1.heap[z + 1]? = some (.cells #[.int .i64 s.g, .int .i64 s.r, .string s.l, .int .i64 s.n, .int .i64 s.i] 43 (0, 0))) := Lib.hid (by have := allocs_get [.cells #[.int .i64 k, .int .i64 m, .slice a n c] 79, .cells #[.int .i64 s.g, .int .i64 s.r, .string s.l, .int .i64 s.n, .int .i64 s.i] 43, .cells #[.slice pa pn pc, .int .i64 pk, .string px, .int .i64 pd, .int .i64 pm, .string pt] 82, .cells #[.int .i64 0, .int .i64 0, .slice none 0 0] 79] w 1 _ rfl; rw [hw1, hz] at this; exact this)
 have HO : Hid (w1.heap[z + 1 + 1]? = some (.cells #[.slice pa pn pc, .int .i64 pk, .string px, .int .i64 pd, .int .i64 pm, .string pt] 82 (0, 0))) := Lib.hid (by have := allocs_get [.cells #[.int .i64 k, .int .i64 m, .slice a n c] 79, .cells #[.int .i64 s.g, .int .i64 s.r, .string s.l, .int .i64 s.n, .int .i64 s.i] 43, .cells #[.slice pa pn pc, .int .i64 pk, .string px, .int .i64 pd, .int .i64 pm, .string pt] 82, .cells #[.int .i64 0, .int .i64 0, .slice none 0 0] 79] w 2 _ rfl; rw [hw1, hz] at this; exact this)
 have HR : Hid (w1.heap[z + 1 + 1 + 1]? = some (.cells #[.int .i64 0, .int .i64 0, .slice none 0 0] 79 (0, 0))) := Lib.hid (by have := allocs_get [.cells #[.int .i64 k, .int .i64 m, .slice a n c] 79, .cells #[.int .i64 s.g, .int .i64 s.r, .string s.l, .int .i64 s.n, .int .i64 s.i] 43, .cells #[.slice pa pn pc, .int .i64 pk, .string px, .int .i64 pd, .int .i64 pm, .string pt] 82, .cells #[.int .i64 0, .int .i64 0, .slice none 0 0] 79] w 3 _ rfl; rw [hw1, hz] at this; exact this)
 have Sz : Hid (w.heap.size = z) := Lib.hid hz
 replace HC := Lib.hid (HC.out.push hb)
 clear hb hw1 hz
 have WZ : Hid (w.heap.size ≤ z + 1 + 1 + 1) := Lib.hid (by have := Sz.out; omega)
 have kV0 := cell_of_row _ _ 0 _ _ _ HV.out
 have kV1 := cell_of_row _ _ 1 _ _ _ HV.out
 have kV2 := cell_of_row _ _ 2 _ _ _ HV.out
 have kO0 := cell_of_row _ _ 0 _ _ _ HO.out
 have kO1 := cell_of_row _ _ 1 _ _ _ HO.out
 have kO2 := cell_of_row _ _ 2 _ _ _ HO.out
 have kO3 := cell_of_row _ _ 3 _ _ _ HO.out
 have kO4 := cell_of_row _ _ 4 _ _ _ HO.out
 have kO5 := cell_of_row _ _ 5 _ _ _ HO.out
 go_wp2_with fail
 refine (kr_Check pl pk px pd pm pt pa pn pc _ (HP.out.below (HC.out.to w (by simp)) rfl) HPN.out).mono ?_
 rintro e w2 ⟨rfl, hb⟩
 clear kV0 kV1 kV2 kO0 kO1 kO2 kO3 kO4 kO5
 replace HC := Lib.hid (HC.out.push hb)
 clear hb
 rw [CE.out]
 go_upto_region 3 with (fail)
 have BW2 := Lib.hid (HC.out.to w (by simp))
 have XV := Lib.hid (boxStays HV.out (HC.out.to w1 (by simp)))
 have XS := Lib.hid (boxStays HS.out (HC.out.to w1 (by simp)))
 obtain ⟨vv, hvv⟩ : ∃ b, valG k m l = b := ⟨_, rfl⟩
 obtain ⟨sk, hsk⟩ : ∃ b, s.ok = b := ⟨_, rfl⟩
 obtain ⟨lg, hlg⟩ : ∃ b, lastGe l s = b := ⟨_, rfl⟩
 obtain ⟨bd, hbd⟩ : ∃ b, (!vv || (!sk || (decide (ce = 2) || lg))) = b := ⟨_, rfl⟩
 have VV := Lib.hid hvv
 have SK := Lib.hid hsk
 have LG := Lib.hid hlg
 have BD : Hid (bd = (!vv || (!sk || (decide (ce = 2) || lg)))) := Lib.hid hbd.symm
 clear hvv hsk hlg hbd
 go_cut [46] (fun u46 wx => u46 = .bool bd ∧ Hid (Below w2.heap.size w2 wx))
 case first =>
  cases vv
  case false =>
   as_aux_lemma =>
    refine relG_start (slots := [19, 20, 21, 22, 23, 24, 25, 26, 27, 28, 29, 30, 31, 32, 33, 34, 35, 36, 37, 38, 39, 40, 41, 42, 43, 44, 45, 46]) (so := []) (by kernel_rfl) (by kernel_rfl) (by rfl) ?_
    refine relG_pure (i := 0) (o := ⟨some 19, _, _, _, _, _⟩) (v := ?v1) [] [3] rfl rfl (by kernel_rfl) (by kernel_rfl) (fun t w1 hB hf hbf => ?y1) ?n1
    case y1 =>
     simp only [BasF] at hbf
     clear hf
     obtain ⟨⟨b3, k3⟩, _⟩ := hbf
     have bw := BW2.out.trans (hB.mono BW2.out.size)
     have yv := boxStays XV.out hB
     have v0 := cell_of_row _ z 0 _ _ _ yv
     have v1 := cell_of_row _ z 1 _ _ _ yv
     have v2 := cell_of_row _ z 2 _ _ _ yv
     have ys := boxStays XS.out hB
     have s0 := cell_of_row _ (z + 1) 0 _ _ _ ys
     have s1 := cell_of_row _ (z + 1) 1 _ _ _ ys
     have s2 := cell_of_row _ (z + 1) 2 _ _ _ ys
     have s3 := cell_of_row _ (z + 1) 3 _ _ _ ys
     have s4 := cell_of_row _ (z + 1) 4 _ _ _ ys
     clear yv ys
     refine Or.inl ⟨wanted_none rfl, ?_⟩
     rintro _ rfl
     go_simp <;> with_reducible rfl
    refine relG_call (i := 1) (o := ⟨some 20, _, _, _, _, _⟩) ((fun v _ => v = .bool false)) [(0, 19, 0)] [] rfl rfl (by kernel_rfl) (by kernel_rfl) ((fun _ _ _ h _ => h)) ?_ ?_
    · intro t w1 hB hf hbf K hK
      simp only [DepF, List.getD_cons_zero] at hf
      obtain ⟨⟨_, ⟨e19, i19⟩, rfl⟩, _⟩ := hf
      clear hbf
      have bw := BW2.out.trans (hB.mono BW2.out.size)
      have yv := boxStays XV.out hB
      have v0 := cell_of_row _ z 0 _ _ _ yv
      have v1 := cell_of_row _ z 1 _ _ _ yv
      have v2 := cell_of_row _ z 2 _ _ _ yv
      have ys := boxStays XS.out hB
      have s0 := cell_of_row _ (z + 1) 0 _ _ _ ys
      have s1 := cell_of_row _ (z + 1) 1 _ _ _ ys
      have s2 := cell_of_row _ (z + 1) 2 _ _ _ ys
      have s3 := cell_of_row _ (z + 1) 3 _ _ _ ys
      have s4 := cell_of_row _ (z + 1) 4 _ _ _ ys
      clear yv ys
      refine ⟨wanted_none rfl, ?_⟩
      go_simp
      refine (kr_Value k m l a n c w1 (HL.out.below bw rfl) HN.out (by omega) HZ.out).mono ?_
      rintro e w2 ⟨rfl, hb⟩
      exact hK.out _ w2 (by rw [VV.out]) hb
    refine relG_pure (i := 2) (o := ⟨some 21, _, _, _, _, _⟩) (v := ?v2) [(1, 20, 0)] [] rfl rfl (by kernel_rfl) (by kernel_rfl) (fun t w1 hB hf hbf => ?y2) ?n2
    case y2 =>
     simp only [DepF, List.getD_cons_zero] at hf
     obtain ⟨⟨_, ⟨e20, i20⟩, rfl⟩, _⟩ := hf
     clear hbf
     have bw := BW2.out.trans (hB.mono BW2.out.size)
     have yv := boxStays XV.out hB
     have v0 := cell_of_row _ z 0 _ _ _ yv
     have v1 := cell_of_row _ z 1 _ _ _ yv
     have v2 := cell_of_row _ z 2 _ _ _ yv
     have ys := boxStays XS.out hB
     have s0 := cell_of_row _ (z + 1) 0 _ _ _ ys
     have s1 := cell_of_row _ (z + 1) 1 _ _ _ ys
     have s2 := cell_of_row _ (z + 1) 2 _ _ _ ys
     have s3 := cell_of_row _ (z + 1) 3 _ _ _ ys
     have s4 := cell_of_row _ (z + 1) 4 _ _ _ ys
     clear yv ys
     refine Or.inl ⟨wanted_none rfl, ?_⟩
     rintro _ rfl
     go_simp <;> with_reducible rfl
    refine relG_pure (i := 3) (o := ⟨some 22, _, _, _, _, _⟩) (v := ?v3) [(2, 21, 0)] [] rfl rfl (by kernel_rfl) (by kernel_rfl) (fun t w1 hB hf hbf => ?y3) ?n3
    case y3 =>
     simp only [DepF, List.getD_cons_zero] at hf
     obtain ⟨⟨_, ⟨e21, i21⟩, rfl⟩, _⟩ := hf
     clear hbf
     have bw := BW2.out.trans (hB.mono BW2.out.size)
     have yv := boxStays XV.out hB
     have v0 := cell_of_row _ z 0 _ _ _ yv
     have v1 := cell_of_row _ z 1 _ _ _ yv
     have v2 := cell_of_row _ z 2 _ _ _ yv
     have ys := boxStays XS.out hB
     have s0 := cell_of_row _ (z + 1) 0 _ _ _ ys
     have s1 := cell_of_row _ (z + 1) 1 _ _ _ ys
     have s2 := cell_of_row _ (z + 1) 2 _ _ _ ys
     have s3 := cell_of_row _ (z + 1) 3 _ _ _ ys
     have s4 := cell_of_row _ (z + 1) 4 _ _ _ ys
     clear yv ys
     refine Or.inl ⟨wanted_none rfl, ?_⟩
     rintro _ rfl
     go_simp <;> with_reducible rfl
    refine relG_pure (i := 4) (o := ⟨some 23, _, _, _, _, _⟩) (v := undef) [(3, 22, 0)] [4] rfl rfl (by kernel_rfl) (by kernel_rfl) (fun t w1 hB hf hbf => ?_) ?_
    · simp only [DepF, List.getD_cons_zero] at hf
      obtain ⟨⟨_, ⟨e22, i22⟩, rfl⟩, _⟩ := hf
      exact Or.inr ⟨(by first | (have hg := getD_some i22; simp [Region.wanted, yielded, hg]; done) | exact skip_undef rfl rfl i22), rfl⟩
    refine relG_pure (i := 5) (o := ⟨some 24, _, _, _, _, _⟩) (v := undef) [(4, 23, 0), (3, 22, 1)] [] rfl rfl (by kernel_rfl) (by kernel_rfl) (fun t w1 hB hf hbf => ?_) ?_
    · simp only [DepF, List.getD_cons_zero, List.getD_cons_succ] at hf
      obtain ⟨⟨_, ⟨e23, i23⟩, rfl⟩, ⟨_, ⟨e22, i22⟩, rfl⟩, _⟩ := hf
      exact Or.inr ⟨(by first | (have hg := getD_some i22; simp [Region.wanted, yielded, hg]; done) | exact skip_undef rfl rfl i22), rfl⟩
    refine relG_pure (i := 6) (o := ⟨some 25, _, _, _, _, _⟩) (v := undef) [(5, 24, 0), (3, 22, 2)] [] rfl rfl (by kernel_rfl) (by kernel_rfl) (fun t w1 hB hf hbf => ?_) ?_
    · simp only [DepF, List.getD_cons_zero, List.getD_cons_succ] at hf
      obtain ⟨⟨_, ⟨e24, i24⟩, rfl⟩, ⟨_, ⟨e22, i22⟩, rfl⟩, _⟩ := hf
      exact Or.inr ⟨(by first | (have hg := getD_some i22; simp [Region.wanted, yielded, hg]; done) | exact skip_undef rfl rfl i22), rfl⟩
    refine relG_pure (i := 7) (o := ⟨some 26, _, _, _, _, _⟩) (v := ?v4) [(3, 22, 3), (6, 25, 0)] [] rfl rfl (by kernel_rfl) (by kernel_rfl) (fun t w1 hB hf hbf => ?y4) ?n4
    case y4 =>
     simp only [DepF, List.getD_cons_zero, List.getD_cons_succ] at hf
     obtain ⟨⟨_, ⟨e22, i22⟩, rfl⟩, ⟨_, ⟨e25, i25⟩, rfl⟩, _⟩ := hf
     clear hbf
     have bw := BW2.out.trans (hB.mono BW2.out.size)
     have yv := boxStays XV.out hB
     have v0 := cell_of_row _ z 0 _ _ _ yv
     have v1 := cell_of_row _ z 1 _ _ _ yv
     have v2 := cell_of_row _ z 2 _ _ _ yv
     have ys := boxStays XS.out hB
     have s0 := cell_of_row _ (z + 1) 0 _ _ _ ys
     have s1 := cell_of_row _ (z + 1) 1 _ _ _ ys
     have s2 := cell_of_row _ (z + 1) 2 _ _ _ ys
     have s3 := cell_of_row _ (z + 1) 3 _ _ _ ys
     have s4 := cell_of_row _ (z + 1) 4 _ _ _ ys
     clear yv ys
     refine Or.inl ⟨wanted_none rfl, ?_⟩
     rintro _ rfl
     go_simp <;> with_reducible rfl
    refine relG_pure (i := 8) (o := ⟨some 27, _, _, _, _, _⟩) (v := ?v5) [(7, 26, 0)] [] rfl rfl (by kernel_rfl) (by kernel_rfl) (fun t w1 hB hf hbf => ?y5) ?n5
    case y5 =>
     simp only [DepF, List.getD_cons_zero] at hf
     obtain ⟨⟨_, ⟨e26, i26⟩, rfl⟩, _⟩ := hf
     clear hbf
     have bw := BW2.out.trans (hB.mono BW2.out.size)
     have yv := boxStays XV.out hB
     have v0 := cell_of_row _ z 0 _ _ _ yv
     have v1 := cell_of_row _ z 1 _ _ _ yv
     have v2 := cell_of_row _ z 2 _ _ _ yv
     have ys := boxStays XS.out hB
     have s0 := cell_of_row _ (z + 1) 0 _ _ _ ys
     have s1 := cell_of_row _ (z + 1) 1 _ _ _ ys
     have s2 := cell_of_row _ (z + 1) 2 _ _ _ ys
     have s3 := cell_of_row _ (z + 1) 3 _ _ _ ys
     have s4 := cell_of_row _ (z + 1) 4 _ _ _ ys
     clear yv ys
     refine Or.inl ⟨wanted_none rfl, ?_⟩
     rintro _ rfl
     go_simp <;> with_reducible rfl
    refine relG_pure (i := 9) (o := ⟨some 28, _, _, _, _, _⟩) (v := undef) [(8, 27, 0)] [9] rfl rfl (by kernel_rfl) (by kernel_rfl) (fun t w1 hB hf hbf => ?_) ?_
    · simp only [DepF, List.getD_cons_zero] at hf
      obtain ⟨⟨_, ⟨e27, i27⟩, rfl⟩, _⟩ := hf
      exact Or.inr ⟨(by first | (have hg := getD_some i27; simp [Region.wanted, yielded, hg]; done) | exact skip_undef rfl rfl i27), rfl⟩
    refine relG_pure (i := 10) (o := ⟨some 29, _, _, _, _, _⟩) (v := undef) [(9, 28, 0), (8, 27, 1)] [] rfl rfl (by kernel_rfl) (by kernel_rfl) (fun t w1 hB hf hbf => ?_) ?_
    · simp only [DepF, List.getD_cons_zero, List.getD_cons_succ] at hf
      obtain ⟨⟨_, ⟨e28, i28⟩, rfl⟩, ⟨_, ⟨e27, i27⟩, rfl⟩, _⟩ := hf
      exact Or.inr ⟨(by first | (have hg := getD_some i27; simp [Region.wanted, yielded, hg]; done) | exact skip_undef rfl rfl i27), rfl⟩
    refine relG_pure (i := 11) (o := ⟨some 30, _, _, _, _, _⟩) (v := ?v6) [(8, 27, 2), (10, 29, 0)] [] rfl rfl (by kernel_rfl) (by kernel_rfl) (fun t w1 hB hf hbf => ?y6) ?n6
    case y6 =>
     simp only [DepF, List.getD_cons_zero, List.getD_cons_succ] at hf
     obtain ⟨⟨_, ⟨e27, i27⟩, rfl⟩, ⟨_, ⟨e29, i29⟩, rfl⟩, _⟩ := hf
     clear hbf
     have bw := BW2.out.trans (hB.mono BW2.out.size)
     have yv := boxStays XV.out hB
     have v0 := cell_of_row _ z 0 _ _ _ yv
     have v1 := cell_of_row _ z 1 _ _ _ yv
     have v2 := cell_of_row _ z 2 _ _ _ yv
     have ys := boxStays XS.out hB
     have s0 := cell_of_row _ (z + 1) 0 _ _ _ ys
     have s1 := cell_of_row _ (z + 1) 1 _ _ _ ys
     have s2 := cell_of_row _ (z + 1) 2 _ _ _ ys
     have s3 := cell_of_row _ (z + 1) 3 _ _ _ ys
     have s4 := cell_of_row _ (z + 1) 4 _ _ _ ys
     clear yv ys
     refine Or.inl ⟨wanted_none rfl, ?_⟩
     rintro _ rfl
     go_simp <;> with_reducible rfl
    refine relG_pure (i := 12) (o := ⟨some 31, _, _, _, _, _⟩) (v := ?v7) [(11, 30, 0)] [] rfl rfl (by kernel_rfl) (by kernel_rfl) (fun t w1 hB hf hbf => ?y7) ?n7
    case y7 =>
     simp only [DepF, List.getD_cons_zero] at hf
     obtain ⟨⟨_, ⟨e30, i30⟩, rfl⟩, _⟩ := hf
     clear hbf
     have bw := BW2.out.trans (hB.mono BW2.out.size)
     have yv := boxStays XV.out hB
     have v0 := cell_of_row _ z 0 _ _ _ yv
     have v1 := cell_of_row _ z 1 _ _ _ yv
     have v2 := cell_of_row _ z 2 _ _ _ yv
     have ys := boxStays XS.out hB
     have s0 := cell_of_row _ (z + 1) 0 _ _ _ ys
     have s1 := cell_of_row _ (z + 1) 1 _ _ _ ys
     have s2 := cell_of_row _ (z + 1) 2 _ _ _ ys
     have s3 := cell_of_row _ (z + 1) 3 _ _ _ ys
     have s4 := cell_of_row _ (z + 1) 4 _ _ _ ys
     clear yv ys
     refine Or.inl ⟨wanted_none rfl, ?_⟩
     rintro _ rfl
     go_simp <;> with_reducible rfl
    refine relG_pure (i := 13) (o := ⟨some 32, _, _, _, _, _⟩) (v := undef) [(12, 31, 0)] [8] rfl rfl (by kernel_rfl) (by kernel_rfl) (fun t w1 hB hf hbf => ?_) ?_
    · simp only [DepF, List.getD_cons_zero] at hf
      obtain ⟨⟨_, ⟨e31, i31⟩, rfl⟩, _⟩ := hf
      exact Or.inr ⟨(by first | (have hg := getD_some i31; simp [Region.wanted, yielded, hg]; done) | exact skip_undef rfl rfl i31), rfl⟩
    refine relG_pure (i := 14) (o := ⟨some 33, _, _, _, _, _⟩) (v := undef) [(13, 32, 0), (12, 31, 1)] [] rfl rfl (by kernel_rfl) (by kernel_rfl) (fun t w1 hB hf hbf => ?_) ?_
    · simp only [DepF, List.getD_cons_zero, List.getD_cons_succ] at hf
      obtain ⟨⟨_, ⟨e32, i32⟩, rfl⟩, ⟨_, ⟨e31, i31⟩, rfl⟩, _⟩ := hf
      exact Or.inr ⟨(by first | (have hg := getD_some i31; simp [Region.wanted, yielded, hg]; done) | exact skip_undef rfl rfl i31), rfl⟩
    refine relG_pure (i := 15) (o := ⟨some 34, _, _, _, _, _⟩) (v := undef) [(14, 33, 0), (12, 31, 2)] [] rfl rfl (by kernel_rfl) (by kernel_rfl) (fun t w1 hB hf hbf => ?_) ?_
    · simp only [DepF, List.getD_cons_zero, List.getD_cons_succ] at hf
      obtain ⟨⟨_, ⟨e33, i33⟩, rfl⟩, ⟨_, ⟨e31, i31⟩, rfl⟩, _⟩ := hf
      exact Or.inr ⟨(by first | (have hg := getD_some i31; simp [Region.wanted, yielded, hg]; done) | exact skip_undef rfl rfl i31), rfl⟩
    refine relG_pure (i := 16) (o := ⟨some 35, _, _, _, _, _⟩) (v := undef) [(15, 34, 0)] [3] rfl rfl (by kernel_rfl) (by kernel_rfl) (fun t w1 hB hf hbf => ?_) ?_
    · simp only [DepF, List.getD_cons_zero] at hf
      obtain ⟨⟨_, ⟨e34, i34⟩, rfl⟩, _⟩ := hf
      exact Or.inr ⟨(by first | (have hg := getD_some i34; simp [Region.wanted, yielded, hg]; done) | exact skip_undef rfl rfl i34), rfl⟩
    refine relG_pure (i := 17) (o := ⟨some 36, _, _, _, _, _⟩) (v := undef) [(16, 35, 0), (15, 34, 1)] [] rfl rfl (by kernel_rfl) (by kernel_rfl) (fun t w1 hB hf hbf => ?_) ?_
    · simp only [DepF, List.getD_cons_zero, List.getD_cons_succ] at hf
      obtain ⟨⟨_, ⟨e35, i35⟩, rfl⟩, ⟨_, ⟨e34, i34⟩, rfl⟩, _⟩ := hf
      exact Or.inr ⟨(by first | (have hg := getD_some i34; simp [Region.wanted, yielded, hg]; done) | exact skip_undef rfl rfl i34), rfl⟩
    refine relG_pure (i := 18) (o := ⟨some 37, _, _, _, _, _⟩) (v := undef) [(15, 34, 2)] [8] rfl rfl (by kernel_rfl) (by kernel_rfl) (fun t w1 hB hf hbf => ?_) ?_
    · simp only [DepF, List.getD_cons_zero, List.getD_cons_succ] at hf
      obtain ⟨⟨_, ⟨e34, i34⟩, rfl⟩, _⟩ := hf
      exact Or.inr ⟨(by first | (have hg := getD_some i34; simp [Region.wanted, yielded, hg]; done) | exact skip_undef rfl rfl i34), rfl⟩
    refine relG_pure (i := 19) (o := ⟨some 38, _, _, _, _, _⟩) (v := undef) [(18, 37, 0), (15, 34, 3)] [] rfl rfl (by kernel_rfl) (by kernel_rfl) (fun t w1 hB hf hbf => ?_) ?_
    · simp only [DepF, List.getD_cons_zero, List.getD_cons_succ] at hf
      obtain ⟨⟨_, ⟨e37, i37⟩, rfl⟩, ⟨_, ⟨e34, i34⟩, rfl⟩, _⟩ := hf
      exact Or.inr ⟨(by first | (have hg := getD_some i34; simp [Region.wanted, yielded, hg]; done) | exact skip_undef rfl rfl i34), rfl⟩
    refine relG_pure (i := 20) (o := ⟨some 39, _, _, _, _, _⟩) (v := undef) [(17, 36, 2), (19, 38, 0), (15, 34, 4)] [] rfl rfl (by kernel_rfl) (by kernel_rfl) (fun t w1 hB hf hbf => ?_) ?_
    · simp only [DepF, List.getD_cons_zero, List.getD_cons_succ] at hf
      obtain ⟨⟨_, ⟨e36, i36⟩, rfl⟩, ⟨_, ⟨e38, i38⟩, rfl⟩, ⟨_, ⟨e34, i34⟩, rfl⟩, _⟩ := hf
      exact Or.inr ⟨(by first | (have hg := getD_some i34; simp [Region.wanted, yielded, hg]; done) | exact skip_undef rfl rfl i34), rfl⟩
    refine relG_pure (i := 21) (o := ⟨some 40, _, _, _, _, _⟩) (v := undef) [(20, 39, 0), (15, 34, 5)] [] rfl rfl (by kernel_rfl) (by kernel_rfl) (fun t w1 hB hf hbf => ?_) ?_
    · simp only [DepF, List.getD_cons_zero, List.getD_cons_succ] at hf
      obtain ⟨⟨_, ⟨e39, i39⟩, rfl⟩, ⟨_, ⟨e34, i34⟩, rfl⟩, _⟩ := hf
      exact Or.inr ⟨(by first | (have hg := getD_some i34; simp [Region.wanted, yielded, hg]; done) | exact skip_undef rfl rfl i34), rfl⟩
    refine relG_pure (i := 22) (o := ⟨some 41, _, _, _, _, _⟩) (v := undef) [(21, 40, 0), (15, 34, 6)] [] rfl rfl (by kernel_rfl) (by kernel_rfl) (fun t w1 hB hf hbf => ?_) ?_
    · simp only [DepF, List.getD_cons_zero, List.getD_cons_succ] at hf
      obtain ⟨⟨_, ⟨e40, i40⟩, rfl⟩, ⟨_, ⟨e34, i34⟩, rfl⟩, _⟩ := hf
      exact Or.inr ⟨(by first | (have hg := getD_some i34; simp [Region.wanted, yielded, hg]; done) | exact skip_undef rfl rfl i34), rfl⟩
    refine relG_pure (i := 23) (o := ⟨some 42, _, _, _, _, _⟩) (v := undef) [(15, 34, 7)] [4] rfl rfl (by kernel_rfl) (by kernel_rfl) (fun t w1 hB hf hbf => ?_) ?_
    · simp only [DepF, List.getD_cons_zero, List.getD_cons_succ] at hf
      obtain ⟨⟨_, ⟨e34, i34⟩, rfl⟩, _⟩ := hf
      exact Or.inr ⟨(by first | (have hg := getD_some i34; simp [Region.wanted, yielded, hg]; done) | exact skip_undef rfl rfl i34), rfl⟩
    refine relG_pure (i := 24) (o := ⟨some 43, _, _, _, _, _⟩) (v := undef) [(22, 41, 1), (23, 42, 0), (15, 34, 8)] [] rfl rfl (by kernel_rfl) (by kernel_rfl) (fun t w1 hB hf hbf => ?_) ?_
    · simp only [DepF, List.getD_cons_zero, List.getD_cons_succ] at hf
      obtain ⟨⟨_, ⟨e41, i41⟩, rfl⟩, ⟨_, ⟨e42, i42⟩, rfl⟩, ⟨_, ⟨e34, i34⟩, rfl⟩, _⟩ := hf
      exact Or.inr ⟨(by first | (have hg := getD_some i34; simp [Region.wanted, yielded, hg]; done) | exact skip_undef rfl rfl i34), rfl⟩
    refine relG_pure (i := 25) (o := ⟨some 44, _, _, _, _, _⟩) (v := undef) [(24, 43, 0), (15, 34, 9)] [] rfl rfl (by kernel_rfl) (by kernel_rfl) (fun t w1 hB hf hbf => ?_) ?_
    · simp only [DepF, List.getD_cons_zero, List.getD_cons_succ] at hf
      obtain ⟨⟨_, ⟨e43, i43⟩, rfl⟩, ⟨_, ⟨e34, i34⟩, rfl⟩, _⟩ := hf
      exact Or.inr ⟨(by first | (have hg := getD_some i34; simp [Region.wanted, yielded, hg]; done) | exact skip_undef rfl rfl i34), rfl⟩
    refine relG_pure (i := 26) (o := ⟨some 45, _, _, _, _, _⟩) (v := undef) [(15, 34, 10), (25, 44, 0), (12, 31, 13)] [] rfl rfl (by kernel_rfl) (by kernel_rfl) (fun t w1 hB hf hbf => ?_) ?_
    · simp only [DepF, List.getD_cons_zero, List.getD_cons_succ] at hf
      obtain ⟨⟨_, ⟨e34, i34⟩, rfl⟩, ⟨_, ⟨e44, i44⟩, rfl⟩, ⟨_, ⟨e31, i31⟩, rfl⟩, _⟩ := hf
      exact Or.inr ⟨(by first | (have hg := getD_some i31; simp [Region.wanted, yielded, hg]; done) | exact skip_undef rfl rfl i31), rfl⟩
    refine relG_pure (i := 27) (o := ⟨some 46, _, _, _, _, _⟩) (v := ?v8) [(12, 31, 14), (26, 45, 0)] [] rfl rfl (by kernel_rfl) (by kernel_rfl) (fun t w1 hB hf hbf => ?y8) ?n8
    case y8 =>
     simp only [DepF, List.getD_cons_zero, List.getD_cons_succ] at hf
     obtain ⟨⟨_, ⟨e31, i31⟩, rfl⟩, ⟨_, ⟨e45, i45⟩, rfl⟩, _⟩ := hf
     clear hbf
     have bw := BW2.out.trans (hB.mono BW2.out.size)
     have yv := boxStays XV.out hB
     have v0 := cell_of_row _ z 0 _ _ _ yv
     have v1 := cell_of_row _ z 1 _ _ _ yv
     have v2 := cell_of_row _ z 2 _ _ _ yv
     have ys := boxStays XS.out hB
     have s0 := cell_of_row _ (z + 1) 0 _ _ _ ys
     have s1 := cell_of_row _ (z + 1) 1 _ _ _ ys
     have s2 := cell_of_row _ (z + 1) 2 _ _ _ ys
     have s3 := cell_of_row _ (z + 1) 3 _ _ _ ys
     have s4 := cell_of_row _ (z + 1) 4 _ _ _ ys
     clear yv ys
     refine Or.inl ⟨wanted_none rfl, ?_⟩
     rintro _ rfl
     go_simp <;> with_reducible rfl
    refine relG_done [(27, 46, 0)] (by kernel_rfl) rfl (by kernel_rfl) (fun f wE hB hf => ?_)
    simp only [FinF, List.getD_cons_zero] at hf
    obtain ⟨⟨_, e46, rfl⟩, _⟩ := hf
    rw [regT_run (s := 19) (n := 28)]
    case h => rfl
    case hb => exact Nat.le_of_ble_eq_true (by kernel_rfl)
    simp only [List.take_succ_cons, List.take_zero, List.map_cons, List.map_nil, List.drop_succ_cons, List.drop_zero, List.cons_append, List.nil_append, e46]
    clear e46
    have HBD := Lib.hid hB
    clear hB
    go_wp2_with fail
    go_meet
    exact ⟨by rw [BD.out]; rfl, HBD⟩
  cases sk
  case false =>
   as_aux_lemma =>
    refine relG_start (slots := [19, 20, 21, 22, 23, 24, 25, 26, 27, 28, 29, 30, 31, 32, 33, 34, 35, 36, 37, 38, 39, 40, 41, 42, 43, 44, 45, 46]) (so := []) (by kernel_rfl) (by kernel_rfl) (by rfl) ?_
    refine relG_pure (i := 0) (o := ⟨some 19, _, _, _, _, _⟩) (v := ?v9) [] [3] rfl rfl (by kernel_rfl) (by kernel_rfl) (fun t w1 hB hf hbf => ?y9) ?n9
    case y9 =>
     simp only [BasF] at hbf
     clear hf
     obtain ⟨⟨b3, k3⟩, _⟩ := hbf
     have bw := BW2.out.trans (hB.mono BW2.out.size)
     have yv := boxStays XV.out hB
     have v0 := cell_of_row _ z 0 _ _ _ yv
     have v1 := cell_of_row _ z 1 _ _ _ yv
     have v2 := cell_of_row _ z 2 _ _ _ yv
     have ys := boxStays XS.out hB
     have s0 := cell_of_row _ (z + 1) 0 _ _ _ ys
     have s1 := cell_of_row _ (z + 1) 1 _ _ _ ys
     have s2 := cell_of_row _ (z + 1) 2 _ _ _ ys
     have s3 := cell_of_row _ (z + 1) 3 _ _ _ ys
     have s4 := cell_of_row _ (z + 1) 4 _ _ _ ys
     clear yv ys
     refine Or.inl ⟨wanted_none rfl, ?_⟩
     rintro _ rfl
     go_simp <;> with_reducible rfl
    refine relG_call (i := 1) (o := ⟨some 20, _, _, _, _, _⟩) ((fun v _ => v = .bool true)) [(0, 19, 0)] [] rfl rfl (by kernel_rfl) (by kernel_rfl) ((fun _ _ _ h _ => h)) ?_ ?_
    · intro t w1 hB hf hbf K hK
      simp only [DepF, List.getD_cons_zero] at hf
      obtain ⟨⟨_, ⟨e19, i19⟩, rfl⟩, _⟩ := hf
      clear hbf
      have bw := BW2.out.trans (hB.mono BW2.out.size)
      have yv := boxStays XV.out hB
      have v0 := cell_of_row _ z 0 _ _ _ yv
      have v1 := cell_of_row _ z 1 _ _ _ yv
      have v2 := cell_of_row _ z 2 _ _ _ yv
      have ys := boxStays XS.out hB
      have s0 := cell_of_row _ (z + 1) 0 _ _ _ ys
      have s1 := cell_of_row _ (z + 1) 1 _ _ _ ys
      have s2 := cell_of_row _ (z + 1) 2 _ _ _ ys
      have s3 := cell_of_row _ (z + 1) 3 _ _ _ ys
      have s4 := cell_of_row _ (z + 1) 4 _ _ _ ys
      clear yv ys
      refine ⟨wanted_none rfl, ?_⟩
      go_simp
      refine (kr_Value k m l a n c w1 (HL.out.below bw rfl) HN.out (by omega) HZ.out).mono ?_
      rintro e w2 ⟨rfl, hb⟩
      exact hK.out _ w2 (by rw [VV.out]) hb
    refine relG_pure (i := 2) (o := ⟨some 21, _, _, _, _, _⟩) (v := ?v10) [(1, 20, 0)] [] rfl rfl (by kernel_rfl) (by kernel_rfl) (fun t w1 hB hf hbf => ?y10) ?n10
    case y10 =>
     simp only [DepF, List.getD_cons_zero] at hf
     obtain ⟨⟨_, ⟨e20, i20⟩, rfl⟩, _⟩ := hf
     clear hbf
     have bw := BW2.out.trans (hB.mono BW2.out.size)
     have yv := boxStays XV.out hB
     have v0 := cell_of_row _ z 0 _ _ _ yv
     have v1 := cell_of_row _ z 1 _ _ _ yv
     have v2 := cell_of_row _ z 2 _ _ _ yv
     have ys := boxStays XS.out hB
     have s0 := cell_of_row _ (z + 1) 0 _ _ _ ys
     have s1 := cell_of_row _ (z + 1) 1 _ _ _ ys
     have s2 := cell_of_row _ (z + 1) 2 _ _ _ ys
     have s3 := cell_of_row _ (z + 1) 3 _ _ _ ys
     have s4 := cell_of_row _ (z + 1) 4 _ _ _ ys
     clear yv ys
     refine Or.inl ⟨wanted_none rfl, ?_⟩
     rintro _ rfl
     go_simp <;> with_reducible rfl
    refine relG_pure (i := 3) (o := ⟨some 22, _, _, _, _, _⟩) (v := ?v11) [(2, 21, 0)] [] rfl rfl (by kernel_rfl) (by kernel_rfl) (fun t w1 hB hf hbf => ?y11) ?n11
    case y11 =>
     simp only [DepF, List.getD_cons_zero] at hf
     obtain ⟨⟨_, ⟨e21, i21⟩, rfl⟩, _⟩ := hf
     clear hbf
     have bw := BW2.out.trans (hB.mono BW2.out.size)
     have yv := boxStays XV.out hB
     have v0 := cell_of_row _ z 0 _ _ _ yv
     have v1 := cell_of_row _ z 1 _ _ _ yv
     have v2 := cell_of_row _ z 2 _ _ _ yv
     have ys := boxStays XS.out hB
     have s0 := cell_of_row _ (z + 1) 0 _ _ _ ys
     have s1 := cell_of_row _ (z + 1) 1 _ _ _ ys
     have s2 := cell_of_row _ (z + 1) 2 _ _ _ ys
     have s3 := cell_of_row _ (z + 1) 3 _ _ _ ys
     have s4 := cell_of_row _ (z + 1) 4 _ _ _ ys
     clear yv ys
     refine Or.inl ⟨wanted_none rfl, ?_⟩
     rintro _ rfl
     go_simp <;> with_reducible rfl
    refine relG_pure (i := 4) (o := ⟨some 23, _, _, _, _, _⟩) (v := ?v12) [(3, 22, 0)] [4] rfl rfl (by kernel_rfl) (by kernel_rfl) (fun t w1 hB hf hbf => ?y12) ?n12
    case y12 =>
     simp only [DepF, List.getD_cons_zero] at hf
     simp only [BasF] at hbf
     obtain ⟨⟨_, ⟨e22, i22⟩, rfl⟩, _⟩ := hf
     obtain ⟨⟨b4, k4⟩, _⟩ := hbf
     have bw := BW2.out.trans (hB.mono BW2.out.size)
     have yv := boxStays XV.out hB
     have v0 := cell_of_row _ z 0 _ _ _ yv
     have v1 := cell_of_row _ z 1 _ _ _ yv
     have v2 := cell_of_row _ z 2 _ _ _ yv
     have ys := boxStays XS.out hB
     have s0 := cell_of_row _ (z + 1) 0 _ _ _ ys
     have s1 := cell_of_row _ (z + 1) 1 _ _ _ ys
     have s2 := cell_of_row _ (z + 1) 2 _ _ _ ys
     have s3 := cell_of_row _ (z + 1) 3 _ _ _ ys
     have s4 := cell_of_row _ (z + 1) 4 _ _ _ ys
     clear yv ys
     refine Or.inl ⟨(by have hg := getD_some i22; simp [Region.wanted, yielded, hg]), ?_⟩
     rintro _ rfl
     go_simp <;> with_reducible rfl
    refine relG_call (i := 5) (o := ⟨some 24, _, _, _, _, _⟩) ((fun v _ => v = .bool false)) [(4, 23, 0), (3, 22, 1)] [] rfl rfl (by kernel_rfl) (by kernel_rfl) ((fun _ _ _ h _ => h)) ?_ ?_
    · intro t w1 hB hf hbf K hK
      simp only [DepF, List.getD_cons_zero, List.getD_cons_succ] at hf
      obtain ⟨⟨_, ⟨e23, i23⟩, rfl⟩, ⟨_, ⟨e22, i22⟩, rfl⟩, _⟩ := hf
      clear hbf
      have bw := BW2.out.trans (hB.mono BW2.out.size)
      have yv := boxStays XV.out hB
      have v0 := cell_of_row _ z 0 _ _ _ yv
      have v1 := cell_of_row _ z 1 _ _ _ yv
      have v2 := cell_of_row _ z 2 _ _ _ yv
      have ys := boxStays XS.out hB
      have s0 := cell_of_row _ (z + 1) 0 _ _ _ ys
      have s1 := cell_of_row _ (z + 1) 1 _ _ _ ys
      have s2 := cell_of_row _ (z + 1) 2 _ _ _ ys
      have s3 := cell_of_row _ (z + 1) 3 _ _ _ ys
      have s4 := cell_of_row _ (z + 1) 4 _ _ _ ys
      clear yv ys
      refine ⟨(by have hg := getD_some i22; simp [Region.wanted, yielded, hg]), ?_⟩
      go_simp
      refine (ref6_Stamp s w1 HSZ.out).mono ?_
      rintro e w2 ⟨rfl, hb⟩
      exact hK.out _ w2 (by rw [SK.out]) hb
    refine relG_pure (i := 6) (o := ⟨some 25, _, _, _, _, _⟩) (v := ?v13) [(5, 24, 0), (3, 22, 2)] [] rfl rfl (by kernel_rfl) (by kernel_rfl) (fun t w1 hB hf hbf => ?y13) ?n13
    case y13 =>
     simp only [DepF, List.getD_cons_zero, List.getD_cons_succ] at hf
     obtain ⟨⟨_, ⟨e24, i24⟩, rfl⟩, ⟨_, ⟨e22, i22⟩, rfl⟩, _⟩ := hf
     clear hbf
     have bw := BW2.out.trans (hB.mono BW2.out.size)
     have yv := boxStays XV.out hB
     have v0 := cell_of_row _ z 0 _ _ _ yv
     have v1 := cell_of_row _ z 1 _ _ _ yv
     have v2 := cell_of_row _ z 2 _ _ _ yv
     have ys := boxStays XS.out hB
     have s0 := cell_of_row _ (z + 1) 0 _ _ _ ys
     have s1 := cell_of_row _ (z + 1) 1 _ _ _ ys
     have s2 := cell_of_row _ (z + 1) 2 _ _ _ ys
     have s3 := cell_of_row _ (z + 1) 3 _ _ _ ys
     have s4 := cell_of_row _ (z + 1) 4 _ _ _ ys
     clear yv ys
     refine Or.inl ⟨(by have hg := getD_some i22; simp [Region.wanted, yielded, hg]), ?_⟩
     rintro _ rfl
     go_simp <;> with_reducible rfl
    refine relG_pure (i := 7) (o := ⟨some 26, _, _, _, _, _⟩) (v := ?v14) [(3, 22, 3), (6, 25, 0)] [] rfl rfl (by kernel_rfl) (by kernel_rfl) (fun t w1 hB hf hbf => ?y14) ?n14
    case y14 =>
     simp only [DepF, List.getD_cons_zero, List.getD_cons_succ] at hf
     obtain ⟨⟨_, ⟨e22, i22⟩, rfl⟩, ⟨_, ⟨e25, i25⟩, rfl⟩, _⟩ := hf
     clear hbf
     have bw := BW2.out.trans (hB.mono BW2.out.size)
     have yv := boxStays XV.out hB
     have v0 := cell_of_row _ z 0 _ _ _ yv
     have v1 := cell_of_row _ z 1 _ _ _ yv
     have v2 := cell_of_row _ z 2 _ _ _ yv
     have ys := boxStays XS.out hB
     have s0 := cell_of_row _ (z + 1) 0 _ _ _ ys
     have s1 := cell_of_row _ (z + 1) 1 _ _ _ ys
     have s2 := cell_of_row _ (z + 1) 2 _ _ _ ys
     have s3 := cell_of_row _ (z + 1) 3 _ _ _ ys
     have s4 := cell_of_row _ (z + 1) 4 _ _ _ ys
     clear yv ys
     refine Or.inl ⟨wanted_none rfl, ?_⟩
     rintro _ rfl
     go_simp <;> with_reducible rfl
    refine relG_pure (i := 8) (o := ⟨some 27, _, _, _, _, _⟩) (v := ?v15) [(7, 26, 0)] [] rfl rfl (by kernel_rfl) (by kernel_rfl) (fun t w1 hB hf hbf => ?y15) ?n15
    case y15 =>
     simp only [DepF, List.getD_cons_zero] at hf
     obtain ⟨⟨_, ⟨e26, i26⟩, rfl⟩, _⟩ := hf
     clear hbf
     have bw := BW2.out.trans (hB.mono BW2.out.size)
     have yv := boxStays XV.out hB
     have v0 := cell_of_row _ z 0 _ _ _ yv
     have v1 := cell_of_row _ z 1 _ _ _ yv
     have v2 := cell_of_row _ z 2 _ _ _ yv
     have ys := boxStays XS.out hB
     have s0 := cell_of_row _ (z + 1) 0 _ _ _ ys
     have s1 := cell_of_row _ (z + 1) 1 _ _ _ ys
     have s2 := cell_of_row _ (z + 1) 2 _ _ _ ys
     have s3 := cell_of_row _ (z + 1) 3 _ _ _ ys
     have s4 := cell_of_row _ (z + 1) 4 _ _ _ ys
     clear yv ys
     refine Or.inl ⟨wanted_none rfl, ?_⟩
     rintro _ rfl
     go_simp <;> with_reducible rfl
    refine relG_pure (i := 9) (o := ⟨some 28, _, _, _, _, _⟩) (v := undef) [(8, 27, 0)] [9] rfl rfl (by kernel_rfl) (by kernel_rfl) (fun t w1 hB hf hbf => ?_) ?_
    · simp only [DepF, List.getD_cons_zero] at hf
      obtain ⟨⟨_, ⟨e27, i27⟩, rfl⟩, _⟩ := hf
      exact Or.inr ⟨(by first | (have hg := getD_some i27; simp [Region.wanted, yielded, hg]; done) | exact skip_undef rfl rfl i27), rfl⟩
    refine relG_pure (i := 10) (o := ⟨some 29, _, _, _, _, _⟩) (v := undef) [(9, 28, 0), (8, 27, 1)] [] rfl rfl (by kernel_rfl) (by kernel_rfl) (fun t w1 hB hf hbf => ?_) ?_
    · simp only [DepF, List.getD_cons_zero, List.getD_cons_succ] at hf
      obtain ⟨⟨_, ⟨e28, i28⟩, rfl⟩, ⟨_, ⟨e27, i27⟩, rfl⟩, _⟩ := hf
      exact Or.inr ⟨(by first | (have hg := getD_some i27; simp [Region.wanted, yielded, hg]; done) | exact skip_undef rfl rfl i27), rfl⟩
    refine relG_pure (i := 11) (o := ⟨some 30, _, _, _, _, _⟩) (v := ?v16) [(8, 27, 2), (10, 29, 0)] [] rfl rfl (by kernel_rfl) (by kernel_rfl) (fun t w1 hB hf hbf => ?y16) ?n16
    case y16 =>
     simp only [DepF, List.getD_cons_zero, List.getD_cons_succ] at hf
     obtain ⟨⟨_, ⟨e27, i27⟩, rfl⟩, ⟨_, ⟨e29, i29⟩, rfl⟩, _⟩ := hf
     clear hbf
     have bw := BW2.out.trans (hB.mono BW2.out.size)
     have yv := boxStays XV.out hB
     have v0 := cell_of_row _ z 0 _ _ _ yv
     have v1 := cell_of_row _ z 1 _ _ _ yv
     have v2 := cell_of_row _ z 2 _ _ _ yv
     have ys := boxStays XS.out hB
     have s0 := cell_of_row _ (z + 1) 0 _ _ _ ys
     have s1 := cell_of_row _ (z + 1) 1 _ _ _ ys
     have s2 := cell_of_row _ (z + 1) 2 _ _ _ ys
     have s3 := cell_of_row _ (z + 1) 3 _ _ _ ys
     have s4 := cell_of_row _ (z + 1) 4 _ _ _ ys
     clear yv ys
     refine Or.inl ⟨wanted_none rfl, ?_⟩
     rintro _ rfl
     go_simp <;> with_reducible rfl
    refine relG_pure (i := 12) (o := ⟨some 31, _, _, _, _, _⟩) (v := ?v17) [(11, 30, 0)] [] rfl rfl (by kernel_rfl) (by kernel_rfl) (fun t w1 hB hf hbf => ?y17) ?n17
    case y17 =>
     simp only [DepF, List.getD_cons_zero] at hf
     obtain ⟨⟨_, ⟨e30, i30⟩, rfl⟩, _⟩ := hf
     clear hbf
     have bw := BW2.out.trans (hB.mono BW2.out.size)
     have yv := boxStays XV.out hB
     have v0 := cell_of_row _ z 0 _ _ _ yv
     have v1 := cell_of_row _ z 1 _ _ _ yv
     have v2 := cell_of_row _ z 2 _ _ _ yv
     have ys := boxStays XS.out hB
     have s0 := cell_of_row _ (z + 1) 0 _ _ _ ys
     have s1 := cell_of_row _ (z + 1) 1 _ _ _ ys
     have s2 := cell_of_row _ (z + 1) 2 _ _ _ ys
     have s3 := cell_of_row _ (z + 1) 3 _ _ _ ys
     have s4 := cell_of_row _ (z + 1) 4 _ _ _ ys
     clear yv ys
     refine Or.inl ⟨wanted_none rfl, ?_⟩
     rintro _ rfl
     go_simp <;> with_reducible rfl
    refine relG_pure (i := 13) (o := ⟨some 32, _, _, _, _, _⟩) (v := undef) [(12, 31, 0)] [8] rfl rfl (by kernel_rfl) (by kernel_rfl) (fun t w1 hB hf hbf => ?_) ?_
    · simp only [DepF, List.getD_cons_zero] at hf
      obtain ⟨⟨_, ⟨e31, i31⟩, rfl⟩, _⟩ := hf
      exact Or.inr ⟨(by first | (have hg := getD_some i31; simp [Region.wanted, yielded, hg]; done) | exact skip_undef rfl rfl i31), rfl⟩
    refine relG_pure (i := 14) (o := ⟨some 33, _, _, _, _, _⟩) (v := undef) [(13, 32, 0), (12, 31, 1)] [] rfl rfl (by kernel_rfl) (by kernel_rfl) (fun t w1 hB hf hbf => ?_) ?_
    · simp only [DepF, List.getD_cons_zero, List.getD_cons_succ] at hf
      obtain ⟨⟨_, ⟨e32, i32⟩, rfl⟩, ⟨_, ⟨e31, i31⟩, rfl⟩, _⟩ := hf
      exact Or.inr ⟨(by first | (have hg := getD_some i31; simp [Region.wanted, yielded, hg]; done) | exact skip_undef rfl rfl i31), rfl⟩
    refine relG_pure (i := 15) (o := ⟨some 34, _, _, _, _, _⟩) (v := undef) [(14, 33, 0), (12, 31, 2)] [] rfl rfl (by kernel_rfl) (by kernel_rfl) (fun t w1 hB hf hbf => ?_) ?_
    · simp only [DepF, List.getD_cons_zero, List.getD_cons_succ] at hf
      obtain ⟨⟨_, ⟨e33, i33⟩, rfl⟩, ⟨_, ⟨e31, i31⟩, rfl⟩, _⟩ := hf
      exact Or.inr ⟨(by first | (have hg := getD_some i31; simp [Region.wanted, yielded, hg]; done) | exact skip_undef rfl rfl i31), rfl⟩
    refine relG_pure (i := 16) (o := ⟨some 35, _, _, _, _, _⟩) (v := undef) [(15, 34, 0)] [3] rfl rfl (by kernel_rfl) (by kernel_rfl) (fun t w1 hB hf hbf => ?_) ?_
    · simp only [DepF, List.getD_cons_zero] at hf
      obtain ⟨⟨_, ⟨e34, i34⟩, rfl⟩, _⟩ := hf
      exact Or.inr ⟨(by first | (have hg := getD_some i34; simp [Region.wanted, yielded, hg]; done) | exact skip_undef rfl rfl i34), rfl⟩
    refine relG_pure (i := 17) (o := ⟨some 36, _, _, _, _, _⟩) (v := undef) [(16, 35, 0), (15, 34, 1)] [] rfl rfl (by kernel_rfl) (by kernel_rfl) (fun t w1 hB hf hbf => ?_) ?_
    · simp only [DepF, List.getD_cons_zero, List.getD_cons_succ] at hf
      obtain ⟨⟨_, ⟨e35, i35⟩, rfl⟩, ⟨_, ⟨e34, i34⟩, rfl⟩, _⟩ := hf
      exact Or.inr ⟨(by first | (have hg := getD_some i34; simp [Region.wanted, yielded, hg]; done) | exact skip_undef rfl rfl i34), rfl⟩
    refine relG_pure (i := 18) (o := ⟨some 37, _, _, _, _, _⟩) (v := undef) [(15, 34, 2)] [8] rfl rfl (by kernel_rfl) (by kernel_rfl) (fun t w1 hB hf hbf => ?_) ?_
    · simp only [DepF, List.getD_cons_zero, List.getD_cons_succ] at hf
      obtain ⟨⟨_, ⟨e34, i34⟩, rfl⟩, _⟩ := hf
      exact Or.inr ⟨(by first | (have hg := getD_some i34; simp [Region.wanted, yielded, hg]; done) | exact skip_undef rfl rfl i34), rfl⟩
    refine relG_pure (i := 19) (o := ⟨some 38, _, _, _, _, _⟩) (v := undef) [(18, 37, 0), (15, 34, 3)] [] rfl rfl (by kernel_rfl) (by kernel_rfl) (fun t w1 hB hf hbf => ?_) ?_
    · simp only [DepF, List.getD_cons_zero, List.getD_cons_succ] at hf
      obtain ⟨⟨_, ⟨e37, i37⟩, rfl⟩, ⟨_, ⟨e34, i34⟩, rfl⟩, _⟩ := hf
      exact Or.inr ⟨(by first | (have hg := getD_some i34; simp [Region.wanted, yielded, hg]; done) | exact skip_undef rfl rfl i34), rfl⟩
    refine relG_pure (i := 20) (o := ⟨some 39, _, _, _, _, _⟩) (v := undef) [(17, 36, 2), (19, 38, 0), (15, 34, 4)] [] rfl rfl (by kernel_rfl) (by kernel_rfl) (fun t w1 hB hf hbf => ?_) ?_
    · simp only [DepF, List.getD_cons_zero, List.getD_cons_succ] at hf
      obtain ⟨⟨_, ⟨e36, i36⟩, rfl⟩, ⟨_, ⟨e38, i38⟩, rfl⟩, ⟨_, ⟨e34, i34⟩, rfl⟩, _⟩ := hf
      exact Or.inr ⟨(by first | (have hg := getD_some i34; simp [Region.wanted, yielded, hg]; done) | exact skip_undef rfl rfl i34), rfl⟩
    refine relG_pure (i := 21) (o := ⟨some 40, _, _, _, _, _⟩) (v := undef) [(20, 39, 0), (15, 34, 5)] [] rfl rfl (by kernel_rfl) (by kernel_rfl) (fun t w1 hB hf hbf => ?_) ?_
    · simp only [DepF, List.getD_cons_zero, List.getD_cons_succ] at hf
      obtain ⟨⟨_, ⟨e39, i39⟩, rfl⟩, ⟨_, ⟨e34, i34⟩, rfl⟩, _⟩ := hf
      exact Or.inr ⟨(by first | (have hg := getD_some i34; simp [Region.wanted, yielded, hg]; done) | exact skip_undef rfl rfl i34), rfl⟩
    refine relG_pure (i := 22) (o := ⟨some 41, _, _, _, _, _⟩) (v := undef) [(21, 40, 0), (15, 34, 6)] [] rfl rfl (by kernel_rfl) (by kernel_rfl) (fun t w1 hB hf hbf => ?_) ?_
    · simp only [DepF, List.getD_cons_zero, List.getD_cons_succ] at hf
      obtain ⟨⟨_, ⟨e40, i40⟩, rfl⟩, ⟨_, ⟨e34, i34⟩, rfl⟩, _⟩ := hf
      exact Or.inr ⟨(by first | (have hg := getD_some i34; simp [Region.wanted, yielded, hg]; done) | exact skip_undef rfl rfl i34), rfl⟩
    refine relG_pure (i := 23) (o := ⟨some 42, _, _, _, _, _⟩) (v := undef) [(15, 34, 7)] [4] rfl rfl (by kernel_rfl) (by kernel_rfl) (fun t w1 hB hf hbf => ?_) ?_
    · simp only [DepF, List.getD_cons_zero, List.getD_cons_succ] at hf
      obtain ⟨⟨_, ⟨e34, i34⟩, rfl⟩, _⟩ := hf
      exact Or.inr ⟨(by first | (have hg := getD_some i34; simp [Region.wanted, yielded, hg]; done) | exact skip_undef rfl rfl i34), rfl⟩
    refine relG_pure (i := 24) (o := ⟨some 43, _, _, _, _, _⟩) (v := undef) [(22, 41, 1), (23, 42, 0), (15, 34, 8)] [] rfl rfl (by kernel_rfl) (by kernel_rfl) (fun t w1 hB hf hbf => ?_) ?_
    · simp only [DepF, List.getD_cons_zero, List.getD_cons_succ] at hf
      obtain ⟨⟨_, ⟨e41, i41⟩, rfl⟩, ⟨_, ⟨e42, i42⟩, rfl⟩, ⟨_, ⟨e34, i34⟩, rfl⟩, _⟩ := hf
      exact Or.inr ⟨(by first | (have hg := getD_some i34; simp [Region.wanted, yielded, hg]; done) | exact skip_undef rfl rfl i34), rfl⟩
    refine relG_pure (i := 25) (o := ⟨some 44, _, _, _, _, _⟩) (v := undef) [(24, 43, 0), (15, 34, 9)] [] rfl rfl (by kernel_rfl) (by kernel_rfl) (fun t w1 hB hf hbf => ?_) ?_
    · simp only [DepF, List.getD_cons_zero, List.getD_cons_succ] at hf
      obtain ⟨⟨_, ⟨e43, i43⟩, rfl⟩, ⟨_, ⟨e34, i34⟩, rfl⟩, _⟩ := hf
      exact Or.inr ⟨(by first | (have hg := getD_some i34; simp [Region.wanted, yielded, hg]; done) | exact skip_undef rfl rfl i34), rfl⟩
    refine relG_pure (i := 26) (o := ⟨some 45, _, _, _, _, _⟩) (v := undef) [(15, 34, 10), (25, 44, 0), (12, 31, 13)] [] rfl rfl (by kernel_rfl) (by kernel_rfl) (fun t w1 hB hf hbf => ?_) ?_
    · simp only [DepF, List.getD_cons_zero, List.getD_cons_succ] at hf
      obtain ⟨⟨_, ⟨e34, i34⟩, rfl⟩, ⟨_, ⟨e44, i44⟩, rfl⟩, ⟨_, ⟨e31, i31⟩, rfl⟩, _⟩ := hf
      exact Or.inr ⟨(by first | (have hg := getD_some i31; simp [Region.wanted, yielded, hg]; done) | exact skip_undef rfl rfl i31), rfl⟩
    refine relG_pure (i := 27) (o := ⟨some 46, _, _, _, _, _⟩) (v := ?v18) [(12, 31, 14), (26, 45, 0)] [] rfl rfl (by kernel_rfl) (by kernel_rfl) (fun t w1 hB hf hbf => ?y18) ?n18
    case y18 =>
     simp only [DepF, List.getD_cons_zero, List.getD_cons_succ] at hf
     obtain ⟨⟨_, ⟨e31, i31⟩, rfl⟩, ⟨_, ⟨e45, i45⟩, rfl⟩, _⟩ := hf
     clear hbf
     have bw := BW2.out.trans (hB.mono BW2.out.size)
     have yv := boxStays XV.out hB
     have v0 := cell_of_row _ z 0 _ _ _ yv
     have v1 := cell_of_row _ z 1 _ _ _ yv
     have v2 := cell_of_row _ z 2 _ _ _ yv
     have ys := boxStays XS.out hB
     have s0 := cell_of_row _ (z + 1) 0 _ _ _ ys
     have s1 := cell_of_row _ (z + 1) 1 _ _ _ ys
     have s2 := cell_of_row _ (z + 1) 2 _ _ _ ys
     have s3 := cell_of_row _ (z + 1) 3 _ _ _ ys
     have s4 := cell_of_row _ (z + 1) 4 _ _ _ ys
     clear yv ys
     refine Or.inl ⟨wanted_none rfl, ?_⟩
     rintro _ rfl
     go_simp <;> with_reducible rfl
    refine relG_done [(27, 46, 0)] (by kernel_rfl) rfl (by kernel_rfl) (fun f wE hB hf => ?_)
    simp only [FinF, List.getD_cons_zero] at hf
    obtain ⟨⟨_, e46, rfl⟩, _⟩ := hf
    rw [regT_run (s := 19) (n := 28)]
    case h => rfl
    case hb => exact Nat.le_of_ble_eq_true (by kernel_rfl)
    simp only [List.take_succ_cons, List.take_zero, List.map_cons, List.map_nil, List.drop_succ_cons, List.drop_zero, List.cons_append, List.nil_append, e46]
    clear e46
    have HBD := Lib.hid hB
    clear hB
    go_wp2_with fail
    go_meet
    exact ⟨by rw [BD.out]; rfl, HBD⟩
  by_cases h2 : ce = 2
  · have h2b : (ce == 2) = true := by simp [h2]
    have BD2 : Hid (bd = true) := Lib.hid (by rw [BD.out, decide_eq_true h2]; rfl)
    clear h2
    as_aux_lemma =>
     refine relG_start (slots := [19, 20, 21, 22, 23, 24, 25, 26, 27, 28, 29, 30, 31, 32, 33, 34, 35, 36, 37, 38, 39, 40, 41, 42, 43, 44, 45, 46]) (so := []) (by kernel_rfl) (by kernel_rfl) (by rfl) ?_
     refine relG_pure (i := 0) (o := ⟨some 19, _, _, _, _, _⟩) (v := ?v19) [] [3] rfl rfl (by kernel_rfl) (by kernel_rfl) (fun t w1 hB hf hbf => ?y19) ?n19
     case y19 =>
      simp only [BasF] at hbf
      clear hf
      obtain ⟨⟨b3, k3⟩, _⟩ := hbf
      have bw := BW2.out.trans (hB.mono BW2.out.size)
      have yv := boxStays XV.out hB
      have v0 := cell_of_row _ z 0 _ _ _ yv
      have v1 := cell_of_row _ z 1 _ _ _ yv
      have v2 := cell_of_row _ z 2 _ _ _ yv
      have ys := boxStays XS.out hB
      have s0 := cell_of_row _ (z + 1) 0 _ _ _ ys
      have s1 := cell_of_row _ (z + 1) 1 _ _ _ ys
      have s2 := cell_of_row _ (z + 1) 2 _ _ _ ys
      have s3 := cell_of_row _ (z + 1) 3 _ _ _ ys
      have s4 := cell_of_row _ (z + 1) 4 _ _ _ ys
      clear yv ys
      refine Or.inl ⟨wanted_none rfl, ?_⟩
      rintro _ rfl
      go_simp <;> with_reducible rfl
     refine relG_call (i := 1) (o := ⟨some 20, _, _, _, _, _⟩) ((fun v _ => v = .bool true)) [(0, 19, 0)] [] rfl rfl (by kernel_rfl) (by kernel_rfl) ((fun _ _ _ h _ => h)) ?_ ?_
     · intro t w1 hB hf hbf K hK
       simp only [DepF, List.getD_cons_zero] at hf
       obtain ⟨⟨_, ⟨e19, i19⟩, rfl⟩, _⟩ := hf
       clear hbf
       have bw := BW2.out.trans (hB.mono BW2.out.size)
       have yv := boxStays XV.out hB
       have v0 := cell_of_row _ z 0 _ _ _ yv
       have v1 := cell_of_row _ z 1 _ _ _ yv
       have v2 := cell_of_row _ z 2 _ _ _ yv
       have ys := boxStays XS.out hB
       have s0 := cell_of_row _ (z + 1) 0 _ _ _ ys
       have s1 := cell_of_row _ (z + 1) 1 _ _ _ ys
       have s2 := cell_of_row _ (z + 1) 2 _ _ _ ys
       have s3 := cell_of_row _ (z + 1) 3 _ _ _ ys
       have s4 := cell_of_row _ (z + 1) 4 _ _ _ ys
       clear yv ys
       refine ⟨wanted_none rfl, ?_⟩
       go_simp
       refine (kr_Value k m l a n c w1 (HL.out.below bw rfl) HN.out (by omega) HZ.out).mono ?_
       rintro e w2 ⟨rfl, hb⟩
       exact hK.out _ w2 (by rw [VV.out]) hb
     refine relG_pure (i := 2) (o := ⟨some 21, _, _, _, _, _⟩) (v := ?v20) [(1, 20, 0)] [] rfl rfl (by kernel_rfl) (by kernel_rfl) (fun t w1 hB hf hbf => ?y20) ?n20
     case y20 =>
      simp only [DepF, List.getD_cons_zero] at hf
      obtain ⟨⟨_, ⟨e20, i20⟩, rfl⟩, _⟩ := hf
      clear hbf
      have bw := BW2.out.trans (hB.mono BW2.out.size)
      have yv := boxStays XV.out hB
      have v0 := cell_of_row _ z 0 _ _ _ yv
      have v1 := cell_of_row _ z 1 _ _ _ yv
      have v2 := cell_of_row _ z 2 _ _ _ yv
      have ys := boxStays XS.out hB
      have s0 := cell_of_row _ (z + 1) 0 _ _ _ ys
      have s1 := cell_of_row _ (z + 1) 1 _ _ _ ys
      have s2 := cell_of_row _ (z + 1) 2 _ _ _ ys
      have s3 := cell_of_row _ (z + 1) 3 _ _ _ ys
      have s4 := cell_of_row _ (z + 1) 4 _ _ _ ys
      clear yv ys
      refine Or.inl ⟨wanted_none rfl, ?_⟩
      rintro _ rfl
      go_simp <;> with_reducible rfl
     refine relG_pure (i := 3) (o := ⟨some 22, _, _, _, _, _⟩) (v := ?v21) [(2, 21, 0)] [] rfl rfl (by kernel_rfl) (by kernel_rfl) (fun t w1 hB hf hbf => ?y21) ?n21
     case y21 =>
      simp only [DepF, List.getD_cons_zero] at hf
      obtain ⟨⟨_, ⟨e21, i21⟩, rfl⟩, _⟩ := hf
      clear hbf
      have bw := BW2.out.trans (hB.mono BW2.out.size)
      have yv := boxStays XV.out hB
      have v0 := cell_of_row _ z 0 _ _ _ yv
      have v1 := cell_of_row _ z 1 _ _ _ yv
      have v2 := cell_of_row _ z 2 _ _ _ yv
      have ys := boxStays XS.out hB
      have s0 := cell_of_row _ (z + 1) 0 _ _ _ ys
      have s1 := cell_of_row _ (z + 1) 1 _ _ _ ys
      have s2 := cell_of_row _ (z + 1) 2 _ _ _ ys
      have s3 := cell_of_row _ (z + 1) 3 _ _ _ ys
      have s4 := cell_of_row _ (z + 1) 4 _ _ _ ys
      clear yv ys
      refine Or.inl ⟨wanted_none rfl, ?_⟩
      rintro _ rfl
      go_simp <;> with_reducible rfl
     refine relG_pure (i := 4) (o := ⟨some 23, _, _, _, _, _⟩) (v := ?v22) [(3, 22, 0)] [4] rfl rfl (by kernel_rfl) (by kernel_rfl) (fun t w1 hB hf hbf => ?y22) ?n22
     case y22 =>
      simp only [DepF, List.getD_cons_zero] at hf
      simp only [BasF] at hbf
      obtain ⟨⟨_, ⟨e22, i22⟩, rfl⟩, _⟩ := hf
      obtain ⟨⟨b4, k4⟩, _⟩ := hbf
      have bw := BW2.out.trans (hB.mono BW2.out.size)
      have yv := boxStays XV.out hB
      have v0 := cell_of_row _ z 0 _ _ _ yv
      have v1 := cell_of_row _ z 1 _ _ _ yv
      have v2 := cell_of_row _ z 2 _ _ _ yv
      have ys := boxStays XS.out hB
      have s0 := cell_of_row _ (z + 1) 0 _ _ _ ys
      have s1 := cell_of_row _ (z + 1) 1 _ _ _ ys
      have s2 := cell_of_row _ (z + 1) 2 _ _ _ ys
      have s3 := cell_of_row _ (z + 1) 3 _ _ _ ys
      have s4 := cell_of_row _ (z + 1) 4 _ _ _ ys
      clear yv ys
      refine Or.inl ⟨(by have hg := getD_some i22; simp [Region.wanted, yielded, hg]), ?_⟩
      rintro _ rfl
      go_simp <;> with_reducible rfl
     refine relG_call (i := 5) (o := ⟨some 24, _, _, _, _, _⟩) ((fun v _ => v = .bool true)) [(4, 23, 0), (3, 22, 1)] [] rfl rfl (by kernel_rfl) (by kernel_rfl) ((fun _ _ _ h _ => h)) ?_ ?_
     · intro t w1 hB hf hbf K hK
       simp only [DepF, List.getD_cons_zero, List.getD_cons_succ] at hf
       obtain ⟨⟨_, ⟨e23, i23⟩, rfl⟩, ⟨_, ⟨e22, i22⟩, rfl⟩, _⟩ := hf
       clear hbf
       have bw := BW2.out.trans (hB.mono BW2.out.size)
       have yv := boxStays XV.out hB
       have v0 := cell_of_row _ z 0 _ _ _ yv
       have v1 := cell_of_row _ z 1 _ _ _ yv
       have v2 := cell_of_row _ z 2 _ _ _ yv
       have ys := boxStays XS.out hB
       have s0 := cell_of_row _ (z + 1) 0 _ _ _ ys
       have s1 := cell_of_row _ (z + 1) 1 _ _ _ ys
       have s2 := cell_of_row _ (z + 1) 2 _ _ _ ys
       have s3 := cell_of_row _ (z + 1) 3 _ _ _ ys
       have s4 := cell_of_row _ (z + 1) 4 _ _ _ ys
       clear yv ys
       refine ⟨(by have hg := getD_some i22; simp [Region.wanted, yielded, hg]), ?_⟩
       go_simp
       refine (ref6_Stamp s w1 HSZ.out).mono ?_
       rintro e w2 ⟨rfl, hb⟩
       exact hK.out _ w2 (by rw [SK.out]) hb
     refine relG_pure (i := 6) (o := ⟨some 25, _, _, _, _, _⟩) (v := ?v23) [(5, 24, 0), (3, 22, 2)] [] rfl rfl (by kernel_rfl) (by kernel_rfl) (fun t w1 hB hf hbf => ?y23) ?n23
     case y23 =>
      simp only [DepF, List.getD_cons_zero, List.getD_cons_succ] at hf
      obtain ⟨⟨_, ⟨e24, i24⟩, rfl⟩, ⟨_, ⟨e22, i22⟩, rfl⟩, _⟩ := hf
      clear hbf
      have bw := BW2.out.trans (hB.mono BW2.out.size)
      have yv := boxStays XV.out hB
      have v0 := cell_of_row _ z 0 _ _ _ yv
      have v1 := cell_of_row _ z 1 _ _ _ yv
      have v2 := cell_of_row _ z 2 _ _ _ yv
      have ys := boxStays XS.out hB
      have s0 := cell_of_row _ (z + 1) 0 _ _ _ ys
      have s1 := cell_of_row _ (z + 1) 1 _ _ _ ys
      have s2 := cell_of_row _ (z + 1) 2 _ _ _ ys
      have s3 := cell_of_row _ (z + 1) 3 _ _ _ ys
      have s4 := cell_of_row _ (z + 1) 4 _ _ _ ys
      clear yv ys
      refine Or.inl ⟨(by have hg := getD_some i22; simp [Region.wanted, yielded, hg]), ?_⟩
      rintro _ rfl
      go_simp <;> with_reducible rfl
     refine relG_pure (i := 7) (o := ⟨some 26, _, _, _, _, _⟩) (v := ?v24) [(3, 22, 3), (6, 25, 0)] [] rfl rfl (by kernel_rfl) (by kernel_rfl) (fun t w1 hB hf hbf => ?y24) ?n24
     case y24 =>
      simp only [DepF, List.getD_cons_zero, List.getD_cons_succ] at hf
      obtain ⟨⟨_, ⟨e22, i22⟩, rfl⟩, ⟨_, ⟨e25, i25⟩, rfl⟩, _⟩ := hf
      clear hbf
      have bw := BW2.out.trans (hB.mono BW2.out.size)
      have yv := boxStays XV.out hB
      have v0 := cell_of_row _ z 0 _ _ _ yv
      have v1 := cell_of_row _ z 1 _ _ _ yv
      have v2 := cell_of_row _ z 2 _ _ _ yv
      have ys := boxStays XS.out hB
      have s0 := cell_of_row _ (z + 1) 0 _ _ _ ys
      have s1 := cell_of_row _ (z + 1) 1 _ _ _ ys
      have s2 := cell_of_row _ (z + 1) 2 _ _ _ ys
      have s3 := cell_of_row _ (z + 1) 3 _ _ _ ys
      have s4 := cell_of_row _ (z + 1) 4 _ _ _ ys
      clear yv ys
      refine Or.inl ⟨wanted_none rfl, ?_⟩
      rintro _ rfl
      go_simp <;> with_reducible rfl
     refine relG_pure (i := 8) (o := ⟨some 27, _, _, _, _, _⟩) (v := ?v25) [(7, 26, 0)] [] rfl rfl (by kernel_rfl) (by kernel_rfl) (fun t w1 hB hf hbf => ?y25) ?n25
     case y25 =>
      simp only [DepF, List.getD_cons_zero] at hf
      obtain ⟨⟨_, ⟨e26, i26⟩, rfl⟩, _⟩ := hf
      clear hbf
      have bw := BW2.out.trans (hB.mono BW2.out.size)
      have yv := boxStays XV.out hB
      have v0 := cell_of_row _ z 0 _ _ _ yv
      have v1 := cell_of_row _ z 1 _ _ _ yv
      have v2 := cell_of_row _ z 2 _ _ _ yv
      have ys := boxStays XS.out hB
      have s0 := cell_of_row _ (z + 1) 0 _ _ _ ys
      have s1 := cell_of_row _ (z + 1) 1 _ _ _ ys
      have s2 := cell_of_row _ (z + 1) 2 _ _ _ ys
      have s3 := cell_of_row _ (z + 1) 3 _ _ _ ys
      have s4 := cell_of_row _ (z + 1) 4 _ _ _ ys
      clear yv ys
      refine Or.inl ⟨wanted_none rfl, ?_⟩
      rintro _ rfl
      go_simp <;> with_reducible rfl
     refine relG_pure (i := 9) (o := ⟨some 28, _, _, _, _, _⟩) (v := ?v26) [(8, 27, 0)] [9] rfl rfl (by kernel_rfl) (by kernel_rfl) (fun t w1 hB hf hbf => ?y26) ?n26
     case y26 =>
      simp only [DepF, List.getD_cons_zero] at hf
      simp only [BasF] at hbf
      obtain ⟨⟨_, ⟨e27, i27⟩, rfl⟩, _⟩ := hf
      obtain ⟨⟨b9, k9⟩, _⟩ := hbf
      have bw := BW2.out.trans (hB.mono BW2.out.size)
      have yv := boxStays XV.out hB
      have v0 := cell_of_row _ z 0 _ _ _ yv
      have v1 := cell_of_row _ z 1 _ _ _ yv
      have v2 := cell_of_row _ z 2 _ _ _ yv
      have ys := boxStays XS.out hB
      have s0 := cell_of_row _ (z + 1) 0 _ _ _ ys
      have s1 := cell_of_row _ (z + 1) 1 _ _ _ ys
      have s2 := cell_of_row _ (z + 1) 2 _ _ _ ys
      have s3 := cell_of_row _ (z + 1) 3 _ _ _ ys
      have s4 := cell_of_row _ (z + 1) 4 _ _ _ ys
      clear yv ys
      refine Or.inl ⟨(by have hg := getD_some i27; simp [Region.wanted, yielded, hg]), ?_⟩
      rintro _ rfl
      go_simp <;> with_reducible rfl
     refine relG_pure (i := 10) (o := ⟨some 29, _, _, _, _, _⟩) (v := ?v27) [(9, 28, 0), (8, 27, 1)] [] rfl rfl (by kernel_rfl) (by kernel_rfl) (fun t w1 hB hf hbf => ?y27) ?n27
     case y27 =>
      simp only [DepF, List.getD_cons_zero, List.getD_cons_succ] at hf
      obtain ⟨⟨_, ⟨e28, i28⟩, rfl⟩, ⟨_, ⟨e27, i27⟩, rfl⟩, _⟩ := hf
      clear hbf
      have bw := BW2.out.trans (hB.mono BW2.out.size)
      have yv := boxStays XV.out hB
      have v0 := cell_of_row _ z 0 _ _ _ yv
      have v1 := cell_of_row _ z 1 _ _ _ yv
      have v2 := cell_of_row _ z 2 _ _ _ yv
      have ys := boxStays XS.out hB
      have s0 := cell_of_row _ (z + 1) 0 _ _ _ ys
      have s1 := cell_of_row _ (z + 1) 1 _ _ _ ys
      have s2 := cell_of_row _ (z + 1) 2 _ _ _ ys
      have s3 := cell_of_row _ (z + 1) 3 _ _ _ ys
      have s4 := cell_of_row _ (z + 1) 4 _ _ _ ys
      clear yv ys
      refine Or.inl ⟨(by have hg := getD_some i27; simp [Region.wanted, yielded, hg]), ?_⟩
      rintro _ rfl
      go_simp <;> with_reducible rfl
     refine relG_pure (i := 11) (o := ⟨some 30, _, _, _, _, _⟩) (v := ?v28) [(8, 27, 2), (10, 29, 0)] [] rfl rfl (by kernel_rfl) (by kernel_rfl) (fun t w1 hB hf hbf => ?y28) ?n28
     case y28 =>
      simp only [DepF, List.getD_cons_zero, List.getD_cons_succ] at hf
      obtain ⟨⟨_, ⟨e27, i27⟩, rfl⟩, ⟨_, ⟨e29, i29⟩, rfl⟩, _⟩ := hf
      clear hbf
      have bw := BW2.out.trans (hB.mono BW2.out.size)
      have yv := boxStays XV.out hB
      have v0 := cell_of_row _ z 0 _ _ _ yv
      have v1 := cell_of_row _ z 1 _ _ _ yv
      have v2 := cell_of_row _ z 2 _ _ _ yv
      have ys := boxStays XS.out hB
      have s0 := cell_of_row _ (z + 1) 0 _ _ _ ys
      have s1 := cell_of_row _ (z + 1) 1 _ _ _ ys
      have s2 := cell_of_row _ (z + 1) 2 _ _ _ ys
      have s3 := cell_of_row _ (z + 1) 3 _ _ _ ys
      have s4 := cell_of_row _ (z + 1) 4 _ _ _ ys
      clear yv ys
      refine Or.inl ⟨wanted_none rfl, ?_⟩
      rintro _ rfl
      go_simp <;> with_reducible rfl
     refine relG_pure (i := 12) (o := ⟨some 31, _, _, _, _, _⟩) (v := ?v29) [(11, 30, 0)] [] rfl rfl (by kernel_rfl) (by kernel_rfl) (fun t w1 hB hf hbf => ?y29) ?n29
     case y29 =>
      simp only [DepF, List.getD_cons_zero] at hf
      obtain ⟨⟨_, ⟨e30, i30⟩, rfl⟩, _⟩ := hf
      clear hbf
      have bw := BW2.out.trans (hB.mono BW2.out.size)
      have yv := boxStays XV.out hB
      have v0 := cell_of_row _ z 0 _ _ _ yv
      have v1 := cell_of_row _ z 1 _ _ _ yv
      have v2 := cell_of_row _ z 2 _ _ _ yv
      have ys := boxStays XS.out hB
      have s0 := cell_of_row _ (z + 1) 0 _ _ _ ys
      have s1 := cell_of_row _ (z + 1) 1 _ _ _ ys
      have s2 := cell_of_row _ (z + 1) 2 _ _ _ ys
      have s3 := cell_of_row _ (z + 1) 3 _ _ _ ys
      have s4 := cell_of_row _ (z + 1) 4 _ _ _ ys
      clear yv ys
      refine Or.inl ⟨wanted_none rfl, ?_⟩
      rintro _ rfl
      go_simp <;> with_reducible rfl
     refine relG_pure (i := 13) (o := ⟨some 32, _, _, _, _, _⟩) (v := undef) [(12, 31, 0)] [8] rfl rfl (by kernel_rfl) (by kernel_rfl) (fun t w1 hB hf hbf => ?_) ?_
     · simp only [DepF, List.getD_cons_zero] at hf
       obtain ⟨⟨_, ⟨e31, i31⟩, rfl⟩, _⟩ := hf
       exact Or.inr ⟨(by first | (have hg := getD_some i31; simp [Region.wanted, yielded, hg]; done) | exact skip_undef rfl rfl i31), rfl⟩
     refine relG_pure (i := 14) (o := ⟨some 33, _, _, _, _, _⟩) (v := undef) [(13, 32, 0), (12, 31, 1)] [] rfl rfl (by kernel_rfl) (by kernel_rfl) (fun t w1 hB hf hbf => ?_) ?_
     · simp only [DepF, List.getD_cons_zero, List.getD_cons_succ] at hf
       obtain ⟨⟨_, ⟨e32, i32⟩, rfl⟩, ⟨_, ⟨e31, i31⟩, rfl⟩, _⟩ := hf
       exact Or.inr ⟨(by first | (have hg := getD_some i31; simp [Region.wanted, yielded, hg]; done) | exact skip_undef rfl rfl i31), rfl⟩
     refine relG_pure (i := 15) (o := ⟨some 34, _, _, _, _, _⟩) (v := undef) [(14, 33, 0), (12, 31, 2)] [] rfl rfl (by kernel_rfl) (by kernel_rfl) (fun t w1 hB hf hbf => ?_) ?_
     · simp only [DepF, List.getD_cons_zero, List.getD_cons_succ] at hf
       obtain ⟨⟨_, ⟨e33, i33⟩, rfl⟩, ⟨_, ⟨e31, i31⟩, rfl⟩, _⟩ := hf
       exact Or.inr ⟨(by first | (have hg := getD_some i31; simp [Region.wanted, yielded, hg]; done) | exact skip_undef rfl rfl i31), rfl⟩
     refine relG_pure (i := 16) (o := ⟨some 35, _, _, _, _, _⟩) (v := undef) [(15, 34, 0)] [3] rfl rfl (by kernel_rfl) (by kernel_rfl) (fun t w1 hB hf hbf => ?_) ?_
     · simp only [DepF, List.getD_cons_zero] at hf
       obtain ⟨⟨_, ⟨e34, i34⟩, rfl⟩, _⟩ := hf
       exact Or.inr ⟨(by first | (have hg := getD_some i34; simp [Region.wanted, yielded, hg]; done) | exact skip_undef rfl rfl i34), rfl⟩
     refine relG_pure (i := 17) (o := ⟨some 36, _, _, _, _, _⟩) (v := undef) [(16, 35, 0), (15, 34, 1)] [] rfl rfl (by kernel_rfl) (by kernel_rfl) (fun t w1 hB hf hbf => ?_) ?_
     · simp only [DepF, List.getD_cons_zero, List.getD_cons_succ] at hf
       obtain ⟨⟨_, ⟨e35, i35⟩, rfl⟩, ⟨_, ⟨e34, i34⟩, rfl⟩, _⟩ := hf
       exact Or.inr ⟨(by first | (have hg := getD_some i34; simp [Region.wanted, yielded, hg]; done) | exact skip_undef rfl rfl i34), rfl⟩
     refine relG_pure (i := 18) (o := ⟨some 37, _, _, _, _, _⟩) (v := undef) [(15, 34, 2)] [8] rfl rfl (by kernel_rfl) (by kernel_rfl) (fun t w1 hB hf hbf => ?_) ?_
     · simp only [DepF, List.getD_cons_zero, List.getD_cons_succ] at hf
       obtain ⟨⟨_, ⟨e34, i34⟩, rfl⟩, _⟩ := hf
       exact Or.inr ⟨(by first | (have hg := getD_some i34; simp [Region.wanted, yielded, hg]; done) | exact skip_undef rfl rfl i34), rfl⟩
     refine relG_pure (i := 19) (o := ⟨some 38, _, _, _, _, _⟩) (v := undef) [(18, 37, 0), (15, 34, 3)] [] rfl rfl (by kernel_rfl) (by kernel_rfl) (fun t w1 hB hf hbf => ?_) ?_
     · simp only [DepF, List.getD_cons_zero, List.getD_cons_succ] at hf
       obtain ⟨⟨_, ⟨e37, i37⟩, rfl⟩, ⟨_, ⟨e34, i34⟩, rfl⟩, _⟩ := hf
       exact Or.inr ⟨(by first | (have hg := getD_some i34; simp [Region.wanted, yielded, hg]; done) | exact skip_undef rfl rfl i34), rfl⟩
     refine relG_pure (i := 20) (o := ⟨some 39, _, _, _, _, _⟩) (v := undef) [(17, 36, 2), (19, 38, 0), (15, 34, 4)] [] rfl rfl (by kernel_rfl) (by kernel_rfl) (fun t w1 hB hf hbf => ?_) ?_
     · simp only [DepF, List.getD_cons_zero, List.getD_cons_succ] at hf
       obtain ⟨⟨_, ⟨e36, i36⟩, rfl⟩, ⟨_, ⟨e38, i38⟩, rfl⟩, ⟨_, ⟨e34, i34⟩, rfl⟩, _⟩ := hf
       exact Or.inr ⟨(by first | (have hg := getD_some i34; simp [Region.wanted, yielded, hg]; done) | exact skip_undef rfl rfl i34), rfl⟩
     refine relG_pure (i := 21) (o := ⟨some 40, _, _, _, _, _⟩) (v := undef) [(20, 39, 0), (15, 34, 5)] [] rfl rfl (by kernel_rfl) (by kernel_rfl) (fun t w1 hB hf hbf => ?_) ?_
     · simp only [DepF, List.getD_cons_zero, List.getD_cons_succ] at hf
       obtain ⟨⟨_, ⟨e39, i39⟩, rfl⟩, ⟨_, ⟨e34, i34⟩, rfl⟩, _⟩ := hf
       exact Or.inr ⟨(by first | (have hg := getD_some i34; simp [Region.wanted, yielded, hg]; done) | exact skip_undef rfl rfl i34), rfl⟩
     refine relG_pure (i := 22) (o := ⟨some 41, _, _, _, _, _⟩) (v := undef) [(21, 40, 0), (15, 34, 6)] [] rfl rfl (by kernel_rfl) (by kernel_rfl) (fun t w1 hB hf hbf => ?_) ?_
     · simp only [DepF, List.getD_cons_zero, List.getD_cons_succ] at hf
       obtain ⟨⟨_, ⟨e40, i40⟩, rfl⟩, ⟨_, ⟨e34, i34⟩, rfl⟩, _⟩ := hf
       exact Or.inr ⟨(by first | (have hg := getD_some i34; simp [Region.wanted, yielded, hg]; done) | exact skip_undef rfl rfl i34), rfl⟩
     refine relG_pure (i := 23) (o := ⟨some 42, _, _, _, _, _⟩) (v := undef) [(15, 34, 7)] [4] rfl rfl (by kernel_rfl) (by kernel_rfl) (fun t w1 hB hf hbf => ?_) ?_
     · simp only [DepF, List.getD_cons_zero, List.getD_cons_succ] at hf
       obtain ⟨⟨_, ⟨e34, i34⟩, rfl⟩, _⟩ := hf
       exact Or.inr ⟨(by first | (have hg := getD_some i34; simp [Region.wanted, yielded, hg]; done) | exact skip_undef rfl rfl i34), rfl⟩
     refine relG_pure (i := 24) (o := ⟨some 43, _, _, _, _, _⟩) (v := undef) [(22, 41, 1), (23, 42, 0), (15, 34, 8)] [] rfl rfl (by kernel_rfl) (by kernel_rfl) (fun t w1 hB hf hbf => ?_) ?_
     · simp only [DepF, List.getD_cons_zero, List.getD_cons_succ] at hf
       obtain ⟨⟨_, ⟨e41, i41⟩, rfl⟩, ⟨_, ⟨e42, i42⟩, rfl⟩, ⟨_, ⟨e34, i34⟩, rfl⟩, _⟩ := hf
       exact Or.inr ⟨(by first | (have hg := getD_some i34; simp [Region.wanted, yielded, hg]; done) | exact skip_undef rfl rfl i34), rfl⟩
     refine relG_pure (i := 25) (o := ⟨some 44, _, _, _, _, _⟩) (v := undef) [(24, 43, 0), (15, 34, 9)] [] rfl rfl (by kernel_rfl) (by kernel_rfl) (fun t w1 hB hf hbf => ?_) ?_
     · simp only [DepF, List.getD_cons_zero, List.getD_cons_succ] at hf
       obtain ⟨⟨_, ⟨e43, i43⟩, rfl⟩, ⟨_, ⟨e34, i34⟩, rfl⟩, _⟩ := hf
       exact Or.inr ⟨(by first | (have hg := getD_some i34; simp [Region.wanted, yielded, hg]; done) | exact skip_undef rfl rfl i34), rfl⟩
     refine relG_pure (i := 26) (o := ⟨some 45, _, _, _, _, _⟩) (v := undef) [(15, 34, 10), (25, 44, 0), (12, 31, 13)] [] rfl rfl (by kernel_rfl) (by kernel_rfl) (fun t w1 hB hf hbf => ?_) ?_
     · simp only [DepF, List.getD_cons_zero, List.getD_cons_succ] at hf
       obtain ⟨⟨_, ⟨e34, i34⟩, rfl⟩, ⟨_, ⟨e44, i44⟩, rfl⟩, ⟨_, ⟨e31, i31⟩, rfl⟩, _⟩ := hf
       exact Or.inr ⟨(by first | (have hg := getD_some i31; simp [Region.wanted, yielded, hg]; done) | exact skip_undef rfl rfl i31), rfl⟩
     refine relG_pure (i := 27) (o := ⟨some 46, _, _, _, _, _⟩) (v := ?v30) [(12, 31, 14), (26, 45, 0)] [] rfl rfl (by kernel_rfl) (by kernel_rfl) (fun t w1 hB hf hbf => ?y30) ?n30
     case y30 =>
      simp only [DepF, List.getD_cons_zero, List.getD_cons_succ] at hf
      obtain ⟨⟨_, ⟨e31, i31⟩, rfl⟩, ⟨_, ⟨e45, i45⟩, rfl⟩, _⟩ := hf
      clear hbf
      have bw := BW2.out.trans (hB.mono BW2.out.size)
      have yv := boxStays XV.out hB
      have v0 := cell_of_row _ z 0 _ _ _ yv
      have v1 := cell_of_row _ z 1 _ _ _ yv
      have v2 := cell_of_row _ z 2 _ _ _ yv
      have ys := boxStays XS.out hB
      have s0 := cell_of_row _ (z + 1) 0 _ _ _ ys
      have s1 := cell_of_row _ (z + 1) 1 _ _ _ ys
      have s2 := cell_of_row _ (z + 1) 2 _ _ _ ys
      have s3 := cell_of_row _ (z + 1) 3 _ _ _ ys
      have s4 := cell_of_row _ (z + 1) 4 _ _ _ ys
      clear yv ys
      refine Or.inl ⟨wanted_none rfl, ?_⟩
      rintro _ rfl
      go_simp <;> with_reducible rfl
     refine relG_done [(27, 46, 0)] (by kernel_rfl) rfl (by kernel_rfl) (fun f wE hB hf => ?_)
     simp only [FinF, List.getD_cons_zero] at hf
     obtain ⟨⟨_, e46, rfl⟩, _⟩ := hf
     rw [regT_run (s := 19) (n := 28)]
     case h => rfl
     case hb => exact Nat.le_of_ble_eq_true (by kernel_rfl)
     simp only [List.take_succ_cons, List.take_zero, List.map_cons, List.map_nil, List.drop_succ_cons, List.drop_zero, List.cons_append, List.nil_append, e46]
     clear e46
     have HBD := Lib.hid hB
     clear hB
     go_wp2_with fail
     go_meet
     exact ⟨by rw [BD2.out], HBD⟩
  have h2b : (ce == 2) = false := by simp [h2]
  have BD2 : Hid (bd = lg) := Lib.hid (by rw [BD.out, decide_eq_false h2]; rfl)
  clear h2
  by_cases h0 : n = 0
  · have h0i : ¬ (0 : Int) < (n : Int) := by omega
    have BD3 : Hid (bd = false) := Lib.hid (by rw [BD2.out, ← LG.out, List.length_eq_zero_iff.1 (HN.out.symm.trans h0)]; rfl)
    have h0n : ¬ 0 < n := by omega
    clear h0
    as_aux_lemma =>
     refine relG_start (slots := [19, 20, 21, 22, 23, 24, 25, 26, 27, 28, 29, 30, 31, 32, 33, 34, 35, 36, 37, 38, 39, 40, 41, 42, 43, 44, 45, 46]) (so := []) (by kernel_rfl) (by kernel_rfl) (by rfl) ?_
     refine relG_pure (i := 0) (o := ⟨some 19, _, _, _, _, _⟩) (v := ?v31) [] [3] rfl rfl (by kernel_rfl) (by kernel_rfl) (fun t w1 hB hf hbf => ?y31) ?n31
     case y31 =>
      simp only [BasF] at hbf
      clear hf
      obtain ⟨⟨b3, k3⟩, _⟩ := hbf
      have bw := BW2.out.trans (hB.mono BW2.out.size)
      have yv := boxStays XV.out hB
      have v0 := cell_of_row _ z 0 _ _ _ yv
      have v1 := cell_of_row _ z 1 _ _ _ yv
      have v2 := cell_of_row _ z 2 _ _ _ yv
      have ys := boxStays XS.out hB
      have s0 := cell_of_row _ (z + 1) 0 _ _ _ ys
      have s1 := cell_of_row _ (z + 1) 1 _ _ _ ys
      have s2 := cell_of_row _ (z + 1) 2 _ _ _ ys
      have s3 := cell_of_row _ (z + 1) 3 _ _ _ ys
      have s4 := cell_of_row _ (z + 1) 4 _ _ _ ys
      clear yv ys
      refine Or.inl ⟨wanted_none rfl, ?_⟩
      rintro _ rfl
      go_simp <;> with_reducible rfl
     refine relG_call (i := 1) (o := ⟨some 20, _, _, _, _, _⟩) ((fun v _ => v = .bool true)) [(0, 19, 0)] [] rfl rfl (by kernel_rfl) (by kernel_rfl) ((fun _ _ _ h _ => h)) ?_ ?_
     · intro t w1 hB hf hbf K hK
       simp only [DepF, List.getD_cons_zero] at hf
       obtain ⟨⟨_, ⟨e19, i19⟩, rfl⟩, _⟩ := hf
       clear hbf
       have bw := BW2.out.trans (hB.mono BW2.out.size)
       have yv := boxStays XV.out hB
       have v0 := cell_of_row _ z 0 _ _ _ yv
       have v1 := cell_of_row _ z 1 _ _ _ yv
       have v2 := cell_of_row _ z 2 _ _ _ yv
       have ys := boxStays XS.out hB
       have s0 := cell_of_row _ (z + 1) 0 _ _ _ ys
       have s1 := cell_of_row _ (z + 1) 1 _ _ _ ys
       have s2 := cell_of_row _ (z + 1) 2 _ _ _ ys
       have s3 := cell_of_row _ (z + 1) 3 _ _ _ ys
       have s4 := cell_of_row _ (z + 1) 4 _ _ _ ys
       clear yv ys
       refine ⟨wanted_none rfl, ?_⟩
       go_simp
       refine (kr_Value k m l a n c w1 (HL.out.below bw rfl) HN.out (by omega) HZ.out).mono ?_
       rintro e w2 ⟨rfl, hb⟩
       exact hK.out _ w2 (by rw [VV.out]) hb
     refine relG_pure (i := 2) (o := ⟨some 21, _, _, _, _, _⟩) (v := ?v32) [(1, 20, 0)] [] rfl rfl (by kernel_rfl) (by kernel_rfl) (fun t w1 hB hf hbf => ?y32) ?n32
     case y32 =>
      simp only [DepF, List.getD_cons_zero] at hf
      obtain ⟨⟨_, ⟨e20, i20⟩, rfl⟩, _⟩ := hf
      clear hbf
      have bw := BW2.out.trans (hB.mono BW2.out.size)
      have yv := boxStays XV.out hB
      have v0 := cell_of_row _ z 0 _ _ _ yv
      have v1 := cell_of_row _ z 1 _ _ _ yv
      have v2 := cell_of_row _ z 2 _ _ _ yv
      have ys := boxStays XS.out hB
      have s0 := cell_of_row _ (z + 1) 0 _ _ _ ys
      have s1 := cell_of_row _ (z + 1) 1 _ _ _ ys
      have s2 := cell_of_row _ (z + 1) 2 _ _ _ ys
      have s3 := cell_of_row _ (z + 1) 3 _ _ _ ys
      have s4 := cell_of_row _ (z + 1) 4 _ _ _ ys
      clear yv ys
      refine Or.inl ⟨wanted_none rfl, ?_⟩
      rintro _ rfl
      go_simp <;> with_reducible rfl
     refine relG_pure (i := 3) (o := ⟨some 22, _, _, _, _, _⟩) (v := ?v33) [(2, 21, 0)] [] rfl rfl (by kernel_rfl) (by kernel_rfl) (fun t w1 hB hf hbf => ?y33) ?n33
     case y33 =>
      simp only [DepF, List.getD_cons_zero] at hf
      obtain ⟨⟨_, ⟨e21, i21⟩, rfl⟩, _⟩ := hf
      clear hbf
      have bw := BW2.out.trans (hB.mono BW2.out.size)
      have yv := boxStays XV.out hB
      have v0 := cell_of_row _ z 0 _ _ _ yv
      have v1 := cell_of_row _ z 1 _ _ _ yv
      have v2 := cell_of_row _ z 2 _ _ _ yv
      have ys := boxStays XS.out hB
      have s0 := cell_of_row _ (z + 1) 0 _ _ _ ys
      have s1 := cell_of_row _ (z + 1) 1 _ _ _ ys
      have s2 := cell_of_row _ (z + 1) 2 _ _ _ ys
      have s3 := cell_of_row _ (z + 1) 3 _ _ _ ys
      have s4 := cell_of_row _ (z + 1) 4 _ _ _ ys
      clear yv ys
      refine Or.inl ⟨wanted_none rfl, ?_⟩
      rintro _ rfl
      go_simp <;> with_reducible rfl
     refine relG_pure (i := 4) (o := ⟨some 23, _, _, _, _, _⟩) (v := ?v34) [(3, 22, 0)] [4] rfl rfl (by kernel_rfl) (by kernel_rfl) (fun t w1 hB hf hbf => ?y34) ?n34
     case y34 =>
      simp only [DepF, List.getD_cons_zero] at hf
      simp only [BasF] at hbf
      obtain ⟨⟨_, ⟨e22, i22⟩, rfl⟩, _⟩ := hf
      obtain ⟨⟨b4, k4⟩, _⟩ := hbf
      have bw := BW2.out.trans (hB.mono BW2.out.size)
      have yv := boxStays XV.out hB
      have v0 := cell_of_row _ z 0 _ _ _ yv
      have v1 := cell_of_row _ z 1 _ _ _ yv
      have v2 := cell_of_row _ z 2 _ _ _ yv
      have ys := boxStays XS.out hB
      have s0 := cell_of_row _ (z + 1) 0 _ _ _ ys
      have s1 := cell_of_row _ (z + 1) 1 _ _ _ ys
      have s2 := cell_of_row _ (z + 1) 2 _ _ _ ys
      have s3 := cell_of_row _ (z + 1) 3 _ _ _ ys
      have s4 := cell_of_row _ (z + 1) 4 _ _ _ ys
      clear yv ys
      refine Or.inl ⟨(by have hg := getD_some i22; simp [Region.wanted, yielded, hg]), ?_⟩
      rintro _ rfl
      go_simp <;> with_reducible rfl
     refine relG_call (i := 5) (o := ⟨some 24, _, _, _, _, _⟩) ((fun v _ => v = .bool true)) [(4, 23, 0), (3, 22, 1)] [] rfl rfl (by kernel_rfl) (by kernel_rfl) ((fun _ _ _ h _ => h)) ?_ ?_
     · intro t w1 hB hf hbf K hK
       simp only [DepF, List.getD_cons_zero, List.getD_cons_succ] at hf
       obtain ⟨⟨_, ⟨e23, i23⟩, rfl⟩, ⟨_, ⟨e22, i22⟩, rfl⟩, _⟩ := hf
       clear hbf
       have bw := BW2.out.trans (hB.mono BW2.out.size)
       have yv := boxStays XV.out hB
       have v0 := cell_of_row _ z 0 _ _ _ yv
       have v1 := cell_of_row _ z 1 _ _ _ yv
       have v2 := cell_of_row _ z 2 _ _ _ yv
       have ys := boxStays XS.out hB
       have s0 := cell_of_row _ (z + 1) 0 _ _ _ ys
       have s1 := cell_of_row _ (z + 1) 1 _ _ _ ys
       have s2 := cell_of_row _ (z + 1) 2 _ _ _ ys
       have s3 := cell_of_row _ (z + 1) 3 _ _ _ ys
       have s4 := cell_of_row _ (z + 1) 4 _ _ _ ys
       clear yv ys
       refine ⟨(by have hg := getD_some i22; simp [Region.wanted, yielded, hg]), ?_⟩
       go_simp
       refine (ref6_Stamp s w1 HSZ.out).mono ?_
       rintro e w2 ⟨rfl, hb⟩
       exact hK.out _ w2 (by rw [SK.out]) hb
     refine relG_pure (i := 6) (o := ⟨some 25, _, _, _, _, _⟩) (v := ?v35) [(5, 24, 0), (3, 22, 2)] [] rfl rfl (by kernel_rfl) (by kernel_rfl) (fun t w1 hB hf hbf => ?y35) ?n35
     case y35 =>
      simp only [DepF, List.getD_cons_zero, List.getD_cons_succ] at hf
      obtain ⟨⟨_, ⟨e24, i24⟩, rfl⟩, ⟨_, ⟨e22, i22⟩, rfl⟩, _⟩ := hf
      clear hbf
      have bw := BW2.out.trans (hB.mono BW2.out.size)
      have yv := boxStays XV.out hB
      have v0 := cell_of_row _ z 0 _ _ _ yv
      have v1 := cell_of_row _ z 1 _ _ _ yv
      have v2 := cell_of_row _ z 2 _ _ _ yv
      have ys := boxStays XS.out hB
      have s0 := cell_of_row _ (z + 1) 0 _ _ _ ys
      have s1 := cell_of_row _ (z + 1) 1 _ _ _ ys
      have s2 := cell_of_row _ (z + 1) 2 _ _ _ ys
      have s3 := cell_of_row _ (z + 1) 3 _ _ _ ys
      have s4 := cell_of_row _ (z + 1) 4 _ _ _ ys
      clear yv ys
      refine Or.inl ⟨(by have hg := getD_some i22; simp [Region.wanted, yielded, hg]), ?_⟩
      rintro _ rfl
      go_simp <;> with_reducible rfl
     refine relG_pure (i := 7) (o := ⟨some 26, _, _, _, _, _⟩) (v := ?v36) [(3, 22, 3), (6, 25, 0)] [] rfl rfl (by kernel_rfl) (by kernel_rfl) (fun t w1 hB hf hbf => ?y36) ?n36
     case y36 =>
      simp only [DepF, List.getD_cons_zero, List.getD_cons_succ] at hf
      obtain ⟨⟨_, ⟨e22, i22⟩, rfl⟩, ⟨_, ⟨e25, i25⟩, rfl⟩, _⟩ := hf
      clear hbf
      have bw := BW2.out.trans (hB.mono BW2.out.size)
      have yv := boxStays XV.out hB
      have v0 := cell_of_row _ z 0 _ _ _ yv
      have v1 := cell_of_row _ z 1 _ _ _ yv
      have v2 := cell_of_row _ z 2 _ _ _ yv
      have ys := boxStays XS.out hB
      have s0 := cell_of_row _ (z + 1) 0 _ _ _ ys
      have s1 := cell_of_row _ (z + 1) 1 _ _ _ ys
      have s2 := cell_of_row _ (z + 1) 2 _ _ _ ys
      have s3 := cell_of_row _ (z + 1) 3 _ _ _ ys
      have s4 := cell_of_row _ (z + 1) 4 _ _ _ ys
      clear yv ys
      refine Or.inl ⟨wanted_none rfl, ?_⟩
      rintro _ rfl
      go_simp <;> with_reducible rfl
     refine relG_pure (i := 8) (o := ⟨some 27, _, _, _, _, _⟩) (v := ?v37) [(7, 26, 0)] [] rfl rfl (by kernel_rfl) (by kernel_rfl) (fun t w1 hB hf hbf => ?y37) ?n37
     case y37 =>
      simp only [DepF, List.getD_cons_zero] at hf
      obtain ⟨⟨_, ⟨e26, i26⟩, rfl⟩, _⟩ := hf
      clear hbf
      have bw := BW2.out.trans (hB.mono BW2.out.size)
      have yv := boxStays XV.out hB
      have v0 := cell_of_row _ z 0 _ _ _ yv
      have v1 := cell_of_row _ z 1 _ _ _ yv
      have v2 := cell_of_row _ z 2 _ _ _ yv
      have ys := boxStays XS.out hB
      have s0 := cell_of_row _ (z + 1) 0 _ _ _ ys
      have s1 := cell_of_row _ (z + 1) 1 _ _ _ ys
      have s2 := cell_of_row _ (z + 1) 2 _ _ _ ys
      have s3 := cell_of_row _ (z + 1) 3 _ _ _ ys
      have s4 := cell_of_row _ (z + 1) 4 _ _ _ ys
      clear yv ys
      refine Or.inl ⟨wanted_none rfl, ?_⟩
      rintro _ rfl
      go_simp <;> with_reducible rfl
     refine relG_pure (i := 9) (o := ⟨some 28, _, _, _, _, _⟩) (v := ?v38) [(8, 27, 0)] [9] rfl rfl (by kernel_rfl) (by kernel_rfl) (fun t w1 hB hf hbf => ?y38) ?n38
     case y38 =>
      simp only [DepF, List.getD_cons_zero] at hf
      simp only [BasF] at hbf
      obtain ⟨⟨_, ⟨e27, i27⟩, rfl⟩, _⟩ := hf
      obtain ⟨⟨b9, k9⟩, _⟩ := hbf
      have bw := BW2.out.trans (hB.mono BW2.out.size)
      have yv := boxStays XV.out hB
      have v0 := cell_of_row _ z 0 _ _ _ yv
      have v1 := cell_of_row _ z 1 _ _ _ yv
      have v2 := cell_of_row _ z 2 _ _ _ yv
      have ys := boxStays XS.out hB
      have s0 := cell_of_row _ (z + 1) 0 _ _ _ ys
      have s1 := cell_of_row _ (z + 1) 1 _ _ _ ys
      have s2 := cell_of_row _ (z + 1) 2 _ _ _ ys
      have s3 := cell_of_row _ (z + 1) 3 _ _ _ ys
      have s4 := cell_of_row _ (z + 1) 4 _ _ _ ys
      clear yv ys
      refine Or.inl ⟨(by have hg := getD_some i27; simp [Region.wanted, yielded, hg]), ?_⟩
      rintro _ rfl
      go_simp <;> with_reducible rfl
     refine relG_pure (i := 10) (o := ⟨some 29, _, _, _, _, _⟩) (v := ?v39) [(9, 28, 0), (8, 27, 1)] [] rfl rfl (by kernel_rfl) (by kernel_rfl) (fun t w1 hB hf hbf => ?y39) ?n39
     case y39 =>
      simp only [DepF, List.getD_cons_zero, List.getD_cons_succ] at hf
      obtain ⟨⟨_, ⟨e28, i28⟩, rfl⟩, ⟨_, ⟨e27, i27⟩, rfl⟩, _⟩ := hf
      clear hbf
      have bw := BW2.out.trans (hB.mono BW2.out.size)
      have yv := boxStays XV.out hB
      have v0 := cell_of_row _ z 0 _ _ _ yv
      have v1 := cell_of_row _ z 1 _ _ _ yv
      have v2 := cell_of_row _ z 2 _ _ _ yv
      have ys := boxStays XS.out hB
      have s0 := cell_of_row _ (z + 1) 0 _ _ _ ys
      have s1 := cell_of_row _ (z + 1) 1 _ _ _ ys
      have s2 := cell_of_row _ (z + 1) 2 _ _ _ ys
      have s3 := cell_of_row _ (z + 1) 3 _ _ _ ys
      have s4 := cell_of_row _ (z + 1) 4 _ _ _ ys
      clear yv ys
      refine Or.inl ⟨(by have hg := getD_some i27; simp [Region.wanted, yielded, hg]), ?_⟩
      rintro _ rfl
      go_simp <;> with_reducible rfl
     refine relG_pure (i := 11) (o := ⟨some 30, _, _, _, _, _⟩) (v := ?v40) [(8, 27, 2), (10, 29, 0)] [] rfl rfl (by kernel_rfl) (by kernel_rfl) (fun t w1 hB hf hbf => ?y40) ?n40
     case y40 =>
      simp only [DepF, List.getD_cons_zero, List.getD_cons_succ] at hf
      obtain ⟨⟨_, ⟨e27, i27⟩, rfl⟩, ⟨_, ⟨e29, i29⟩, rfl⟩, _⟩ := hf
      clear hbf
      have bw := BW2.out.trans (hB.mono BW2.out.size)
      have yv := boxStays XV.out hB
      have v0 := cell_of_row _ z 0 _ _ _ yv
      have v1 := cell_of_row _ z 1 _ _ _ yv
      have v2 := cell_of_row _ z 2 _ _ _ yv
      have ys := boxStays XS.out hB
      have s0 := cell_of_row _ (z + 1) 0 _ _ _ ys
      have s1 := cell_of_row _ (z + 1) 1 _ _ _ ys
      have s2 := cell_of_row _ (z + 1) 2 _ _ _ ys
      have s3 := cell_of_row _ (z + 1) 3 _ _ _ ys
      have s4 := cell_of_row _ (z + 1) 4 _ _ _ ys
      clear yv ys
      refine Or.inl ⟨wanted_none rfl, ?_⟩
      rintro _ rfl
      go_simp <;> with_reducible rfl
     refine relG_pure (i := 12) (o := ⟨some 31, _, _, _, _, _⟩) (v := ?v41) [(11, 30, 0)] [] rfl rfl (by kernel_rfl) (by kernel_rfl) (fun t w1 hB hf hbf => ?y41) ?n41
     case y41 =>
      simp only [DepF, List.getD_cons_zero] at hf
      obtain ⟨⟨_, ⟨e30, i30⟩, rfl⟩, _⟩ := hf
      clear hbf
      have bw := BW2.out.trans (hB.mono BW2.out.size)
      have yv := boxStays XV.out hB
      have v0 := cell_of_row _ z 0 _ _ _ yv
      have v1 := cell_of_row _ z 1 _ _ _ yv
      have v2 := cell_of_row _ z 2 _ _ _ yv
      have ys := boxStays XS.out hB
      have s0 := cell_of_row _ (z + 1) 0 _ _ _ ys
      have s1 := cell_of_row _ (z + 1) 1 _ _ _ ys
      have s2 := cell_of_row _ (z + 1) 2 _ _ _ ys
      have s3 := cell_of_row _ (z + 1) 3 _ _ _ ys
      have s4 := cell_of_row _ (z + 1) 4 _ _ _ ys
      clear yv ys
      refine Or.inl ⟨wanted_none rfl, ?_⟩
      rintro _ rfl
      go_simp <;> with_reducible rfl
     refine relG_pure (i := 13) (o := ⟨some 32, _, _, _, _, _⟩) (v := ?v42) [(12, 31, 0)] [8] rfl rfl (by kernel_rfl) (by kernel_rfl) (fun t w1 hB hf hbf => ?y42) ?n42
     case y42 =>
      simp only [DepF, List.getD_cons_zero] at hf
      simp only [BasF] at hbf
      obtain ⟨⟨_, ⟨e31, i31⟩, rfl⟩, _⟩ := hf
      obtain ⟨⟨b8, k8⟩, _⟩ := hbf
      have bw := BW2.out.trans (hB.mono BW2.out.size)
      have yv := boxStays XV.out hB
      have v0 := cell_of_row _ z 0 _ _ _ yv
      have v1 := cell_of_row _ z 1 _ _ _ yv
      have v2 := cell_of_row _ z 2 _ _ _ yv
      have ys := boxStays XS.out hB
      have s0 := cell_of_row _ (z + 1) 0 _ _ _ ys
      have s1 := cell_of_row _ (z + 1) 1 _ _ _ ys
      have s2 := cell_of_row _ (z + 1) 2 _ _ _ ys
      have s3 := cell_of_row _ (z + 1) 3 _ _ _ ys
      have s4 := cell_of_row _ (z + 1) 4 _ _ _ ys
      clear yv ys
      refine Or.inl ⟨(by have hg := getD_some i31; simp [Region.wanted, yielded, hg]), ?_⟩
      rintro _ rfl
      go_simp <;> with_reducible rfl
     refine relG_pure (i := 14) (o := ⟨some 33, _, _, _, _, _⟩) (v := ?v43) [(13, 32, 0), (12, 31, 1)] [] rfl rfl (by kernel_rfl) (by kernel_rfl) (fun t w1 hB hf hbf => ?y43) ?n43
     case y43 =>
      simp only [DepF, List.getD_cons_zero, List.getD_cons_succ] at hf
      obtain ⟨⟨_, ⟨e32, i32⟩, rfl⟩, ⟨_, ⟨e31, i31⟩, rfl⟩, _⟩ := hf
      clear hbf
      have bw := BW2.out.trans (hB.mono BW2.out.size)
      have yv := boxStays XV.out hB
      have v0 := cell_of_row _ z 0 _ _ _ yv
      have v1 := cell_of_row _ z 1 _ _ _ yv
      have v2 := cell_of_row _ z 2 _ _ _ yv
      have ys := boxStays XS.out hB
      have s0 := cell_of_row _ (z + 1) 0 _ _ _ ys
      have s1 := cell_of_row _ (z + 1) 1 _ _ _ ys
      have s2 := cell_of_row _ (z + 1) 2 _ _ _ ys
      have s3 := cell_of_row _ (z + 1) 3 _ _ _ ys
      have s4 := cell_of_row _ (z + 1) 4 _ _ _ ys
      clear yv ys
      refine Or.inl ⟨(by have hg := getD_some i31; simp [Region.wanted, yielded, hg]), ?_⟩
      rintro _ rfl
      go_simp <;> with_reducible rfl
     refine relG_pure (i := 15) (o := ⟨some 34, _, _, _, _, _⟩) (v := ?v44) [(14, 33, 0), (12, 31, 2)] [] rfl rfl (by kernel_rfl) (by kernel_rfl) (fun t w1 hB hf hbf => ?y44) ?n44
     case y44 =>
      simp only [DepF, List.getD_cons_zero, List.getD_cons_succ] at hf
      obtain ⟨⟨_, ⟨e33, i33⟩, rfl⟩, ⟨_, ⟨e31, i31⟩, rfl⟩, _⟩ := hf
      clear hbf
      have bw := BW2.out.trans (hB.mono BW2.out.size)
      have yv := boxStays XV.out hB
      have v0 := cell_of_row _ z 0 _ _ _ yv
      have v1 := cell_of_row _ z 1 _ _ _ yv
      have v2 := cell_of_row _ z 2 _ _ _ yv
      have ys := boxStays XS.out hB
      have s0 := cell_of_row _ (z + 1) 0 _ _ _ ys
      have s1 := cell_of_row _ (z + 1) 1 _ _ _ ys
      have s2 := cell_of_row _ (z + 1) 2 _ _ _ ys
      have s3 := cell_of_row _ (z + 1) 3 _ _ _ ys
      have s4 := cell_of_row _ (z + 1) 4 _ _ _ ys
      clear yv ys
      refine Or.inl ⟨(by have hg := getD_some i31; simp [Region.wanted, yielded, hg]), ?_⟩
      rintro _ rfl
      go_simp <;> with_reducible rfl
     refine relG_pure (i := 16) (o := ⟨some 35, _, _, _, _, _⟩) (v := undef) [(15, 34, 0)] [3] rfl rfl (by kernel_rfl) (by kernel_rfl) (fun t w1 hB hf hbf => ?_) ?_
     · simp only [DepF, List.getD_cons_zero] at hf
       obtain ⟨⟨_, ⟨e34, i34⟩, rfl⟩, _⟩ := hf
       exact Or.inr ⟨(by first | (have hg := getD_some i34; simp [Region.wanted, yielded, hg]; done) | exact skip_undef rfl rfl i34), rfl⟩
     refine relG_pure (i := 17) (o := ⟨some 36, _, _, _, _, _⟩) (v := undef) [(16, 35, 0), (15, 34, 1)] [] rfl rfl (by kernel_rfl) (by kernel_rfl) (fun t w1 hB hf hbf => ?_) ?_
     · simp only [DepF, List.getD_cons_zero, List.getD_cons_succ] at hf
       obtain ⟨⟨_, ⟨e35, i35⟩, rfl⟩, ⟨_, ⟨e34, i34⟩, rfl⟩, _⟩ := hf
       exact Or.inr ⟨(by first | (have hg := getD_some i34; simp [Region.wanted, yielded, hg]; done) | exact skip_undef rfl rfl i34), rfl⟩
     refine relG_pure (i := 18) (o := ⟨some 37, _, _, _, _, _⟩) (v := undef) [(15, 34, 2)] [8] rfl rfl (by kernel_rfl) (by kernel_rfl) (fun t w1 hB hf hbf => ?_) ?_
     · simp only [DepF, List.getD_cons_zero, List.getD_cons_succ] at hf
       obtain ⟨⟨_, ⟨e34, i34⟩, rfl⟩, _⟩ := hf
       exact Or.inr ⟨(by first | (have hg := getD_some i34; simp [Region.wanted, yielded, hg]; done) | exact skip_undef rfl rfl i34), rfl⟩
     refine relG_pure (i := 19) (o := ⟨some 38, _, _, _, _, _⟩) (v := undef) [(18, 37, 0), (15, 34, 3)] [] rfl rfl (by kernel_rfl) (by kernel_rfl) (fun t w1 hB hf hbf => ?_) ?_
     · simp only [DepF, List.getD_cons_zero, List.getD_cons_succ] at hf
       obtain ⟨⟨_, ⟨e37, i37⟩, rfl⟩, ⟨_, ⟨e34, i34⟩, rfl⟩, _⟩ := hf
       exact Or.inr ⟨(by first | (have hg := getD_some i34; simp [Region.wanted, yielded, hg]; done) | exact skip_undef rfl rfl i34), rfl⟩
     refine relG_pure (i := 20) (o := ⟨some 39, _, _, _, _, _⟩) (v := undef) [(17, 36, 2), (19, 38, 0), (15, 34, 4)] [] rfl rfl (by kernel_rfl) (by kernel_rfl) (fun t w1 hB hf hbf => ?_) ?_
     · simp only [DepF, List.getD_cons_zero, List.getD_cons_succ] at hf
       obtain ⟨⟨_, ⟨e36, i36⟩, rfl⟩, ⟨_, ⟨e38, i38⟩, rfl⟩, ⟨_, ⟨e34, i34⟩, rfl⟩, _⟩ := hf
       exact Or.inr ⟨(by first | (have hg := getD_some i34; simp [Region.wanted, yielded, hg]; done) | exact skip_undef rfl rfl i34), rfl⟩
     refine relG_pure (i := 21) (o := ⟨some 40, _, _, _, _, _⟩) (v := undef) [(20, 39, 0), (15, 34, 5)] [] rfl rfl (by kernel_rfl) (by kernel_rfl) (fun t w1 hB hf hbf => ?_) ?_
     · simp only [DepF, List.getD_cons_zero, List.getD_cons_succ] at hf
       obtain ⟨⟨_, ⟨e39, i39⟩, rfl⟩, ⟨_, ⟨e34, i34⟩, rfl⟩, _⟩ := hf
       exact Or.inr ⟨(by first | (have hg := getD_some i34; simp [Region.wanted, yielded, hg]; done) | exact skip_undef rfl rfl i34), rfl⟩
     refine relG_pure (i := 22) (o := ⟨some 41, _, _, _, _, _⟩) (v := undef) [(21, 40, 0), (15, 34, 6)] [] rfl rfl (by kernel_rfl) (by kernel_rfl) (fun t w1 hB hf hbf => ?_) ?_
     · simp only [DepF, List.getD_cons_zero, List.getD_cons_succ] at hf
       obtain ⟨⟨_, ⟨e40, i40⟩, rfl⟩, ⟨_, ⟨e34, i34⟩, rfl⟩, _⟩ := hf
       exact Or.inr ⟨(by first | (have hg := getD_some i34; simp [Region.wanted, yielded, hg]; done) | exact skip_undef rfl rfl i34), rfl⟩
     refine relG_pure (i := 23) (o := ⟨some 42, _, _, _, _, _⟩) (v := undef) [(15, 34, 7)] [4] rfl rfl (by kernel_rfl) (by kernel_rfl) (fun t w1 hB hf hbf => ?_) ?_
     · simp only [DepF, List.getD_cons_zero, List.getD_cons_succ] at hf
       obtain ⟨⟨_, ⟨e34, i34⟩, rfl⟩, _⟩ := hf
       exact Or.inr ⟨(by first | (have hg := getD_some i34; simp [Region.wanted, yielded, hg]; done) | exact skip_undef rfl rfl i34), rfl⟩
     refine relG_pure (i := 24) (o := ⟨some 43, _, _, _, _, _⟩) (v := undef) [(22, 41, 1), (23, 42, 0), (15, 34, 8)] [] rfl rfl (by kernel_rfl) (by kernel_rfl) (fun t w1 hB hf hbf => ?_) ?_
     · simp only [DepF, List.getD_cons_zero, List.getD_cons_succ] at hf
       obtain ⟨⟨_, ⟨e41, i41⟩, rfl⟩, ⟨_, ⟨e42, i42⟩, rfl⟩, ⟨_, ⟨e34, i34⟩, rfl⟩, _⟩ := hf
       exact Or.inr ⟨(by first | (have hg := getD_some i34; simp [Region.wanted, yielded, hg]; done) | exact skip_undef rfl rfl i34), rfl⟩
     refine relG_pure (i := 25) (o := ⟨some 44, _, _, _, _, _⟩) (v := undef) [(24, 43, 0), (15, 34, 9)] [] rfl rfl (by kernel_rfl) (by kernel_rfl) (fun t w1 hB hf hbf => ?_) ?_
     · simp only [DepF, List.getD_cons_zero, List.getD_cons_succ] at hf
       obtain ⟨⟨_, ⟨e43, i43⟩, rfl⟩, ⟨_, ⟨e34, i34⟩, rfl⟩, _⟩ := hf
       exact Or.inr ⟨(by first | (have hg := getD_some i34; simp [Region.wanted, yielded, hg]; done) | exact skip_undef rfl rfl i34), rfl⟩
     refine relG_pure (i := 26) (o := ⟨some 45, _, _, _, _, _⟩) (v := ?v45) [(15, 34, 10), (25, 44, 0), (12, 31, 13)] [] rfl rfl (by kernel_rfl) (by kernel_rfl) (fun t w1 hB hf hbf => ?y45) ?n45
     case y45 =>
      simp only [DepF, List.getD_cons_zero, List.getD_cons_succ] at hf
      obtain ⟨⟨_, ⟨e34, i34⟩, rfl⟩, ⟨_, ⟨e44, i44⟩, rfl⟩, ⟨_, ⟨e31, i31⟩, rfl⟩, _⟩ := hf
      clear hbf
      have bw := BW2.out.trans (hB.mono BW2.out.size)
      have yv := boxStays XV.out hB
      have v0 := cell_of_row _ z 0 _ _ _ yv
      have v1 := cell_of_row _ z 1 _ _ _ yv
      have v2 := cell_of_row _ z 2 _ _ _ yv
      have ys := boxStays XS.out hB
      have s0 := cell_of_row _ (z + 1) 0 _ _ _ ys
      have s1 := cell_of_row _ (z + 1) 1 _ _ _ ys
      have s2 := cell_of_row _ (z + 1) 2 _ _ _ ys
      have s3 := cell_of_row _ (z + 1) 3 _ _ _ ys
      have s4 := cell_of_row _ (z + 1) 4 _ _ _ ys
      clear yv ys
      refine Or.inl ⟨(by have hg := getD_some i31; simp [Region.wanted, yielded, hg]), ?_⟩
      rintro _ rfl
      go_simp <;> with_reducible rfl
     refine relG_pure (i := 27) (o := ⟨some 46, _, _, _, _, _⟩) (v := ?v46) [(12, 31, 14), (26, 45, 0)] [] rfl rfl (by kernel_rfl) (by kernel_rfl) (fun t w1 hB hf hbf => ?y46) ?n46
     case y46 =>
      simp only [DepF, List.getD_cons_zero, List.getD_cons_succ] at hf
      obtain ⟨⟨_, ⟨e31, i31⟩, rfl⟩, ⟨_, ⟨e45, i45⟩, rfl⟩, _⟩ := hf
      clear hbf
      have bw := BW2.out.trans (hB.mono BW2.out.size)
      have yv := boxStays XV.out hB
      have v0 := cell_of_row _ z 0 _ _ _ yv
      have v1 := cell_of_row _ z 1 _ _ _ yv
      have v2 := cell_of_row _ z 2 _ _ _ yv
      have ys := boxStays XS.out hB
      have s0 := cell_of_row _ (z + 1) 0 _ _ _ ys
      have s1 := cell_of_row _ (z + 1) 1 _ _ _ ys
      have s2 := cell_of_row _ (z + 1) 2 _ _ _ ys
      have s3 := cell_of_row _ (z + 1) 3 _ _ _ ys
      have s4 := cell_of_row _ (z + 1) 4 _ _ _ ys
      clear yv ys
      refine Or.inl ⟨wanted_none rfl, ?_⟩
      rintro _ rfl
      go_simp <;> with_reducible rfl
     refine relG_done [(27, 46, 0)] (by kernel_rfl) rfl (by kernel_rfl) (fun f wE hB hf => ?_)
     simp only [FinF, List.getD_cons_zero] at hf
     obtain ⟨⟨_, e46, rfl⟩, _⟩ := hf
     rw [regT_run (s := 19) (n := 28)]
     case h => rfl
     case hb => exact Nat.le_of_ble_eq_true (by kernel_rfl)
     simp only [List.take_succ_cons, List.take_zero, List.map_cons, List.map_nil, List.drop_succ_cons, List.drop_zero, List.cons_append, List.nil_append, e46]
     clear e46
     have HBD := Lib.hid hB
     clear hB
     go_wp2_with fail
     go_meet
     exact ⟨by rw [BD3.out], HBD⟩
  · obtain ⟨r, hr⟩ : ∃ r, n = r + 1 := ⟨n - 1, by omega⟩
    have h0i : (0 : Int) < (n : Int) := by omega
    have h0n : decide (0 < n) = true := decide_eq_true (by omega)
    have hrw : IntKind.i64.wrap ((n : Int) - 1) = (r : Int) := by rw [IntKind.wrap_i64]; omega
    have hrn : (r : Int) < (n : Int) := by omega
    have hrl : r < l.length := by have := HN.out; omega
    have BD3 : Hid (bd = decide (0 ≤ svC l[r].1 s)) := Lib.hid (by rw [BD2.out, ← LG.out]; exact lastGe_at (by rw [← HN.out]; exact hr))
    obtain ⟨ba, oa, ha, -⟩ := els_get HL.out r hrl
    subst ha
    have PC : Hid (∀ W, Below w.heap.size w W → ElCell W ba (oa + r * 6) l[r]) := Lib.hid (fun W hW => by
     obtain ⟨b', o', e, pc⟩ := els_get (HL.out.below hW rfl) r hrl
     cases e
     exact pc)
    have YZ : Hid (l[r].1.l.size ≤ 9223372036854775807) := Lib.hid (HZ.out _ (List.getElem_mem hrl))
    obtain ⟨y, hy⟩ : ∃ y, l[r] = y := ⟨_, rfl⟩
    rw [hy] at PC YZ BD3
    clear hy hrl hr h0
    obtain ⟨cv, hcv⟩ : ∃ x, svC y.1 s = x := ⟨_, rfl⟩
    rw [hcv] at BD3
    have CV := Lib.hid hcv
    clear hcv
    as_aux_lemma =>
     refine relG_start (slots := [19, 20, 21, 22, 23, 24, 25, 26, 27, 28, 29, 30, 31, 32, 33, 34, 35, 36, 37, 38, 39, 40, 41, 42, 43, 44, 45, 46]) (so := []) (by kernel_rfl) (by kernel_rfl) (by rfl) ?_
     refine relG_pure (i := 0) (o := ⟨some 19, _, _, _, _, _⟩) (v := ?v47) [] [3] rfl rfl (by kernel_rfl) (by kernel_rfl) (fun t w1 hB hf hbf => ?y47) ?n47
     case y47 =>
      simp only [BasF] at hbf
      clear hf
      obtain ⟨⟨b3, k3⟩, _⟩ := hbf
      have bw := BW2.out.trans (hB.mono BW2.out.size)
      have yv := boxStays XV.out hB
      have v0 := cell_of_row _ z 0 _ _ _ yv
      have v1 := cell_of_row _ z 1 _ _ _ yv
      have v2 := cell_of_row _ z 2 _ _ _ yv
      have ys := boxStays XS.out hB
      have s0 := cell_of_row _ (z + 1) 0 _ _ _ ys
      have s1 := cell_of_row _ (z + 1) 1 _ _ _ ys
      have s2 := cell_of_row _ (z + 1) 2 _ _ _ ys
      have s3 := cell_of_row _ (z + 1) 3 _ _ _ ys
      have s4 := cell_of_row _ (z + 1) 4 _ _ _ ys
      clear yv ys
      obtain ⟨p0, p1, p2, p3, p4, p5⟩ := PC.out w1 bw
      refine Or.inl ⟨wanted_none rfl, ?_⟩
      rintro _ rfl
      go_simp <;> with_reducible rfl
     refine relG_call (i := 1) (o := ⟨some 20, _, _, _, _, _⟩) ((fun v _ => v = .bool true)) [(0, 19, 0)] [] rfl rfl (by kernel_rfl) (by kernel_rfl) ((fun _ _ _ h _ => h)) ?_ ?_
     · intro t w1 hB hf hbf K hK
       simp only [DepF, List.getD_cons_zero] at hf
       obtain ⟨⟨_, ⟨e19, i19⟩, rfl⟩, _⟩ := hf
       clear hbf
       have bw := BW2.out.trans (hB.mono BW2.out.size)
       have yv := boxStays XV.out hB
       have v0 := cell_of_row _ z 0 _ _ _ yv
       have v1 := cell_of_row _ z 1 _ _ _ yv
       have v2 := cell_of_row _ z 2 _ _ _ yv
       have ys := boxStays XS.out hB
       have s0 := cell_of_row _ (z + 1) 0 _ _ _ ys
       have s1 := cell_of_row _ (z + 1) 1 _ _ _ ys
       have s2 := cell_of_row _ (z + 1) 2 _ _ _ ys
       have s3 := cell_of_row _ (z + 1) 3 _ _ _ ys
       have s4 := cell_of_row _ (z + 1) 4 _ _ _ ys
       clear yv ys
       obtain ⟨p0, p1, p2, p3, p4, p5⟩ := PC.out w1 bw
       refine ⟨wanted_none rfl, ?_⟩
       go_simp
       refine (kr_Value k m l (some ⟨ba, oa, none⟩) n c w1 (HL.out.below bw rfl) HN.out (by omega) HZ.out).mono ?_
       rintro e w2 ⟨rfl, hb⟩
       exact hK.out _ w2 (by rw [VV.out]) hb
     refine relG_pure (i := 2) (o := ⟨some 21, _, _, _, _, _⟩) (v := ?v48) [(1, 20, 0)] [] rfl rfl (by kernel_rfl) (by kernel_rfl) (fun t w1 hB hf hbf => ?y48) ?n48
     case y48 =>
      simp only [DepF, List.getD_cons_zero] at hf
      obtain ⟨⟨_, ⟨e20, i20⟩, rfl⟩, _⟩ := hf
      clear hbf
      have bw := BW2.out.trans (hB.mono BW2.out.size)
      have yv := boxStays XV.out hB
      have v0 := cell_of_row _ z 0 _ _ _ yv
      have v1 := cell_of_row _ z 1 _ _ _ yv
      have v2 := cell_of_row _ z 2 _ _ _ yv
      have ys := boxStays XS.out hB
      have s0 := cell_of_row _ (z + 1) 0 _ _ _ ys
      have s1 := cell_of_row _ (z + 1) 1 _ _ _ ys
      have s2 := cell_of_row _ (z + 1) 2 _ _ _ ys
      have s3 := cell_of_row _ (z + 1) 3 _ _ _ ys
      have s4 := cell_of_row _ (z + 1) 4 _ _ _ ys
      clear yv ys
      obtain ⟨p0, p1, p2, p3, p4, p5⟩ := PC.out w1 bw
      refine Or.inl ⟨wanted_none rfl, ?_⟩
      rintro _ rfl
      go_simp <;> with_reducible rfl
     refine relG_pure (i := 3) (o := ⟨some 22, _, _, _, _, _⟩) (v := ?v49) [(2, 21, 0)] [] rfl rfl (by kernel_rfl) (by kernel_rfl) (fun t w1 hB hf hbf => ?y49) ?n49
     case y49 =>
      simp only [DepF, List.getD_cons_zero] at hf
      obtain ⟨⟨_, ⟨e21, i21⟩, rfl⟩, _⟩ := hf
      clear hbf
      have bw := BW2.out.trans (hB.mono BW2.out.size)
      have yv := boxStays XV.out hB
      have v0 := cell_of_row _ z 0 _ _ _ yv
      have v1 := cell_of_row _ z 1 _ _ _ yv
      have v2 := cell_of_row _ z 2 _ _ _ yv
      have ys := boxStays XS.out hB
      have s0 := cell_of_row _ (z + 1) 0 _ _ _ ys
      have s1 := cell_of_row _ (z + 1) 1 _ _ _ ys
      have s2 := cell_of_row _ (z + 1) 2 _ _ _ ys
      have s3 := cell_of_row _ (z + 1) 3 _ _ _ ys
      have s4 := cell_of_row _ (z + 1) 4 _ _ _ ys
      clear yv ys
      obtain ⟨p0, p1, p2, p3, p4, p5⟩ := PC.out w1 bw
      refine Or.inl ⟨wanted_none rfl, ?_⟩
      rintro _ rfl
      go_simp <;> with_reducible rfl
     refine relG_pure (i := 4) (o := ⟨some 23, _, _, _, _, _⟩) (v := ?v50) [(3, 22, 0)] [4] rfl rfl (by kernel_rfl) (by kernel_rfl) (fun t w1 hB hf hbf => ?y50) ?n50
     case y50 =>
      simp only [DepF, List.getD_cons_zero] at hf
      simp only [BasF] at hbf
      obtain ⟨⟨_, ⟨e22, i22⟩, rfl⟩, _⟩ := hf
      obtain ⟨⟨b4, k4⟩, _⟩ := hbf
      have bw := BW2.out.trans (hB.mono BW2.out.size)
      have yv := boxStays XV.out hB
      have v0 := cell_of_row _ z 0 _ _ _ yv
      have v1 := cell_of_row _ z 1 _ _ _ yv
      have v2 := cell_of_row _ z 2 _ _ _ yv
      have ys := boxStays XS.out hB
      have s0 := cell_of_row _ (z + 1) 0 _ _ _ ys
      have s1 := cell_of_row _ (z + 1) 1 _ _ _ ys
      have s2 := cell_of_row _ (z + 1) 2 _ _ _ ys
      have s3 := cell_of_row _ (z + 1) 3 _ _ _ ys
      have s4 := cell_of_row _ (z + 1) 4 _ _ _ ys
      clear yv ys
      obtain ⟨p0, p1, p2, p3, p4, p5⟩ := PC.out w1 bw
      refine Or.inl ⟨(by have hg := getD_some i22; simp [Region.wanted, yielded, hg]), ?_⟩
      rintro _ rfl
      go_simp <;> with_reducible rfl
     refine relG_call (i := 5) (o := ⟨some 24, _, _, _, _, _⟩) ((fun v _ => v = .bool true)) [(4, 23, 0), (3, 22, 1)] [] rfl rfl (by kernel_rfl) (by kernel_rfl) ((fun _ _ _ h _ => h)) ?_ ?_
     · intro t w1 hB hf hbf K hK
       simp only [DepF, List.getD_cons_zero, List.getD_cons_succ] at hf
       obtain ⟨⟨_, ⟨e23, i23⟩, rfl⟩, ⟨_, ⟨e22, i22⟩, rfl⟩, _⟩ := hf
       clear hbf
       have bw := BW2.out.trans (hB.mono BW2.out.size)
       have yv := boxStays XV.out hB
       have v0 := cell_of_row _ z 0 _ _ _ yv
       have v1 := cell_of_row _ z 1 _ _ _ yv
       have v2 := cell_of_row _ z 2 _ _ _ yv
       have ys := boxStays XS.out hB
       have s0 := cell_of_row _ (z + 1) 0 _ _ _ ys
       have s1 := cell_of_row _ (z + 1) 1 _ _ _ ys
       have s2 := cell_of_row _ (z + 1) 2 _ _ _ ys
       have s3 := cell_of_row _ (z + 1) 3 _ _ _ ys
       have s4 := cell_of_row _ (z + 1) 4 _ _ _ ys
       clear yv ys
       obtain ⟨p0, p1, p2, p3, p4, p5⟩ := PC.out w1 bw
       refine ⟨(by have hg := getD_some i22; simp [Region.wanted, yielded, hg]), ?_⟩
       go_simp
       refine (ref6_Stamp s w1 HSZ.out).mono ?_
       rintro e w2 ⟨rfl, hb⟩
       exact hK.out _ w2 (by rw [SK.out]) hb
     refine relG_pure (i := 6) (o := ⟨some 25, _, _, _, _, _⟩) (v := ?v51) [(5, 24, 0), (3, 22, 2)] [] rfl rfl (by kernel_rfl) (by kernel_rfl) (fun t w1 hB hf hbf => ?y51) ?n51
     case y51 =>
      simp only [DepF, List.getD_cons_zero, List.getD_cons_succ] at hf
      obtain ⟨⟨_, ⟨e24, i24⟩, rfl⟩, ⟨_, ⟨e22, i22⟩, rfl⟩, _⟩ := hf
      clear hbf
      have bw := BW2.out.trans (hB.mono BW2.out.size)
      have yv := boxStays XV.out hB
      have v0 := cell_of_row _ z 0 _ _ _ yv
      have v1 := cell_of_row _ z 1 _ _ _ yv
      have v2 := cell_of_row _ z 2 _ _ _ yv
      have ys := boxStays XS.out hB
      have s0 := cell_of_row _ (z + 1) 0 _ _ _ ys
      have s1 := cell_of_row _ (z + 1) 1 _ _ _ ys
      have s2 := cell_of_row _ (z + 1) 2 _ _ _ ys
      have s3 := cell_of_row _ (z + 1) 3 _ _ _ ys
      have s4 := cell_of_row _ (z + 1) 4 _ _ _ ys
      clear yv ys
      obtain ⟨p0, p1, p2, p3, p4, p5⟩ := PC.out w1 bw
      refine Or.inl ⟨(by have hg := getD_some i22; simp [Region.wanted, yielded, hg]), ?_⟩
      rintro _ rfl
      go_simp <;> with_reducible rfl
     refine relG_pure (i := 7) (o := ⟨some 26, _, _, _, _, _⟩) (v := ?v52) [(3, 22, 3), (6, 25, 0)] [] rfl rfl (by kernel_rfl) (by kernel_rfl) (fun t w1 hB hf hbf => ?y52) ?n52
     case y52 =>
      simp only [DepF, List.getD_cons_zero, List.getD_cons_succ] at hf
      obtain ⟨⟨_, ⟨e22, i22⟩, rfl⟩, ⟨_, ⟨e25, i25⟩, rfl⟩, _⟩ := hf
      clear hbf
      have bw := BW2.out.trans (hB.mono BW2.out.size)
      have yv := boxStays XV.out hB
      have v0 := cell_of_row _ z 0 _ _ _ yv
      have v1 := cell_of_row _ z 1 _ _ _ yv
      have v2 := cell_of_row _ z 2 _ _ _ yv
      have ys := boxStays XS.out hB
      have s0 := cell_of_row _ (z + 1) 0 _ _ _ ys
      have s1 := cell_of_row _ (z + 1) 1 _ _ _ ys
      have s2 := cell_of_row _ (z + 1) 2 _ _ _ ys
      have s3 := cell_of_row _ (z + 1) 3 _ _ _ ys
      have s4 := cell_of_row _ (z + 1) 4 _ _ _ ys
      clear yv ys
      obtain ⟨p0, p1, p2, p3, p4, p5⟩ := PC.out w1 bw
      refine Or.inl ⟨wanted_none rfl, ?_⟩
      rintro _ rfl
      go_simp <;> with_reducible rfl
     refine relG_pure (i := 8) (o := ⟨some 27, _, _, _, _, _⟩) (v := ?v53) [(7, 26, 0)] [] rfl rfl (by kernel_rfl) (by kernel_rfl) (fun t w1 hB hf hbf => ?y53) ?n53
     case y53 =>
      simp only [DepF, List.getD_cons_zero] at hf
      obtain ⟨⟨_, ⟨e26, i26⟩, rfl⟩, _⟩ := hf
      clear hbf
      have bw := BW2.out.trans (hB.mono BW2.out.size)
      have yv := boxStays XV.out hB
      have v0 := cell_of_row _ z 0 _ _ _ yv
      have v1 := cell_of_row _ z 1 _ _ _ yv
      have v2 := cell_of_row _ z 2 _ _ _ yv
      have ys := boxStays XS.out hB
      have s0 := cell_of_row _ (z + 1) 0 _ _ _ ys
      have s1 := cell_of_row _ (z + 1) 1 _ _ _ ys
      have s2 := cell_of_row _ (z + 1) 2 _ _ _ ys
      have s3 := cell_of_row _ (z + 1) 3 _ _ _ ys
      have s4 := cell_of_row _ (z + 1) 4 _ _ _ ys
      clear yv ys
      obtain ⟨p0, p1, p2, p3, p4, p5⟩ := PC.out w1 bw
      refine Or.inl ⟨wanted_none rfl, ?_⟩
      rintro _ rfl
      go_simp <;> with_reducible rfl
     refine relG_pure (i := 9) (o := ⟨some 28, _, _, _, _, _⟩) (v := ?v54) [(8, 27, 0)] [9] rfl rfl (by kernel_rfl) (by kernel_rfl) (fun t w1 hB hf hbf => ?y54) ?n54
     case y54 =>
      simp only [DepF, List.getD_cons_zero] at hf
      simp only [BasF] at hbf
      obtain ⟨⟨_, ⟨e27, i27⟩, rfl⟩, _⟩ := hf
      obtain ⟨⟨b9, k9⟩, _⟩ := hbf
      have bw := BW2.out.trans (hB.mono BW2.out.size)
      have yv := boxStays XV.out hB
      have v0 := cell_of_row _ z 0 _ _ _ yv
      have v1 := cell_of_row _ z 1 _ _ _ yv
      have v2 := cell_of_row _ z 2 _ _ _ yv
      have ys := boxStays XS.out hB
      have s0 := cell_of_row _ (z + 1) 0 _ _ _ ys
      have s1 := cell_of_row _ (z + 1) 1 _ _ _ ys
      have s2 := cell_of_row _ (z + 1) 2 _ _ _ ys
      have s3 := cell_of_row _ (z + 1) 3 _ _ _ ys
      have s4 := cell_of_row _ (z + 1) 4 _ _ _ ys
      clear yv ys
      obtain ⟨p0, p1, p2, p3, p4, p5⟩ := PC.out w1 bw
      refine Or.inl ⟨(by have hg := getD_some i27; simp [Region.wanted, yielded, hg]), ?_⟩
      rintro _ rfl
      go_simp <;> with_reducible rfl
     refine relG_pure (i := 10) (o := ⟨some 29, _, _, _, _, _⟩) (v := ?v55) [(9, 28, 0), (8, 27, 1)] [] rfl rfl (by kernel_rfl) (by kernel_rfl) (fun t w1 hB hf hbf => ?y55) ?n55
     case y55 =>
      simp only [DepF, List.getD_cons_zero, List.getD_cons_succ] at hf
      obtain ⟨⟨_, ⟨e28, i28⟩, rfl⟩, ⟨_, ⟨e27, i27⟩, rfl⟩, _⟩ := hf
      clear hbf
      have bw := BW2.out.trans (hB.mono BW2.out.size)
      have yv := boxStays XV.out hB
      have v0 := cell_of_row _ z 0 _ _ _ yv
      have v1 := cell_of_row _ z 1 _ _ _ yv
      have v2 := cell_of_row _ z 2 _ _ _ yv
      have ys := boxStays XS.out hB
      have s0 := cell_of_row _ (z + 1) 0 _ _ _ ys
      have s1 := cell_of_row _ (z + 1) 1 _ _ _ ys
      have s2 := cell_of_row _ (z + 1) 2 _ _ _ ys
      have s3 := cell_of_row _ (z + 1) 3 _ _ _ ys
      have s4 := cell_of_row _ (z + 1) 4 _ _ _ ys
      clear yv ys
      obtain ⟨p0, p1, p2, p3, p4, p5⟩ := PC.out w1 bw
      refine Or.inl ⟨(by have hg := getD_some i27; simp [Region.wanted, yielded, hg]), ?_⟩
      rintro _ rfl
      go_simp <;> with_reducible rfl
     refine relG_pure (i := 11) (o := ⟨some 30, _, _, _, _, _⟩) (v := ?v56) [(8, 27, 2), (10, 29, 0)] [] rfl rfl (by kernel_rfl) (by kernel_rfl) (fun t w1 hB hf hbf => ?y56) ?n56
     case y56 =>
      simp only [DepF, List.getD_cons_zero, List.getD_cons_succ] at hf
      obtain ⟨⟨_, ⟨e27, i27⟩, rfl⟩, ⟨_, ⟨e29, i29⟩, rfl⟩, _⟩ := hf
      clear hbf
      have bw := BW2.out.trans (hB.mono BW2.out.size)
      have yv := boxStays XV.out hB
      have v0 := cell_of_row _ z 0 _ _ _ yv
      have v1 := cell_of_row _ z 1 _ _ _ yv
      have v2 := cell_of_row _ z 2 _ _ _ yv
      have ys := boxStays XS.out hB
      have s0 := cell_of_row _ (z + 1) 0 _ _ _ ys
      have s1 := cell_of_row _ (z + 1) 1 _ _ _ ys
      have s2 := cell_of_row _ (z + 1) 2 _ _ _ ys
      have s3 := cell_of_row _ (z + 1) 3 _ _ _ ys
      have s4 := cell_of_row _ (z + 1) 4 _ _ _ ys
      clear yv ys
      obtain ⟨p0, p1, p2, p3, p4, p5⟩ := PC.out w1 bw
      refine Or.inl ⟨wanted_none rfl, ?_⟩
      rintro _ rfl
      go_simp <;> with_reducible rfl
     refine relG_pure (i := 12) (o := ⟨some 31, _, _, _, _, _⟩) (v := ?v57) [(11, 30, 0)] [] rfl rfl (by kernel_rfl) (by kernel_rfl) (fun t w1 hB hf hbf => ?y57) ?n57
     case y57 =>
      simp only [DepF, List.getD_cons_zero] at hf
      obtain ⟨⟨_, ⟨e30, i30⟩, rfl⟩, _⟩ := hf
      clear hbf
      have bw := BW2.out.trans (hB.mono BW2.out.size)
      have yv := boxStays XV.out hB
      have v0 := cell_of_row _ z 0 _ _ _ yv
      have v1 := cell_of_row _ z 1 _ _ _ yv
      have v2 := cell_of_row _ z 2 _ _ _ yv
      have ys := boxStays XS.out hB
      have s0 := cell_of_row _ (z + 1) 0 _ _ _ ys
      have s1 := cell_of_row _ (z + 1) 1 _ _ _ ys
      have s2 := cell_of_row _ (z + 1) 2 _ _ _ ys
      have s3 := cell_of_row _ (z + 1) 3 _ _ _ ys
      have s4 := cell_of_row _ (z + 1) 4 _ _ _ ys
      clear yv ys
      obtain ⟨p0, p1, p2, p3, p4, p5⟩ := PC.out w1 bw
      refine Or.inl ⟨wanted_none rfl, ?_⟩
      rintro _ rfl
      go_simp <;> with_reducible rfl
     refine relG_pure (i := 13) (o := ⟨some 32, _, _, _, _, _⟩) (v := ?v58) [(12, 31, 0)] [8] rfl rfl (by kernel_rfl) (by kernel_rfl) (fun t w1 hB hf hbf => ?y58) ?n58
     case y58 =>
      simp only [DepF, List.getD_cons_zero] at hf
      simp only [BasF] at hbf
      obtain ⟨⟨_, ⟨e31, i31⟩, rfl⟩, _⟩ := hf
      obtain ⟨⟨b8, k8⟩, _⟩ := hbf
      have bw := BW2.out.trans (hB.mono BW2.out.size)
      have yv := boxStays XV.out hB
      have v0 := cell_of_row _ z 0 _ _ _ yv
      have v1 := cell_of_row _ z 1 _ _ _ yv
      have v2 := cell_of_row _ z 2 _ _ _ yv
      have ys := boxStays XS.out hB
      have s0 := cell_of_row _ (z + 1) 0 _ _ _ ys
      have s1 := cell_of_row _ (z + 1) 1 _ _ _ ys
      have s2 := cell_of_row _ (z + 1) 2 _ _ _ ys
      have s3 := cell_of_row _ (z + 1) 3 _ _ _ ys
      have s4 := cell_of_row _ (z + 1) 4 _ _ _ ys
      clear yv ys
      obtain ⟨p0, p1, p2, p3, p4, p5⟩ := PC.out w1 bw
      refine Or.inl ⟨(by have hg := getD_some i31; simp [Region.wanted, yielded, hg]), ?_⟩
      rintro _ rfl
      go_simp <;> with_reducible rfl
     refine relG_pure (i := 14) (o := ⟨some 33, _, _, _, _, _⟩) (v := ?v59) [(13, 32, 0), (12, 31, 1)] [] rfl rfl (by kernel_rfl) (by kernel_rfl) (fun t w1 hB hf hbf => ?y59) ?n59
     case y59 =>
      simp only [DepF, List.getD_cons_zero, List.getD_cons_succ] at hf
      obtain ⟨⟨_, ⟨e32, i32⟩, rfl⟩, ⟨_, ⟨e31, i31⟩, rfl⟩, _⟩ := hf
      clear hbf
      have bw := BW2.out.trans (hB.mono BW2.out.size)
      have yv := boxStays XV.out hB
      have v0 := cell_of_row _ z 0 _ _ _ yv
      have v1 := cell_of_row _ z 1 _ _ _ yv
      have v2 := cell_of_row _ z 2 _ _ _ yv
      have ys := boxStays XS.out hB
      have s0 := cell_of_row _ (z + 1) 0 _ _ _ ys
      have s1 := cell_of_row _ (z + 1) 1 _ _ _ ys
      have s2 := cell_of_row _ (z + 1) 2 _ _ _ ys
      have s3 := cell_of_row _ (z + 1) 3 _ _ _ ys
      have s4 := cell_of_row _ (z + 1) 4 _ _ _ ys
      clear yv ys
      obtain ⟨p0, p1, p2, p3, p4, p5⟩ := PC.out w1 bw
      refine Or.inl ⟨(by have hg := getD_some i31; simp [Region.wanted, yielded, hg]), ?_⟩
      rintro _ rfl
      go_simp <;> with_reducible rfl
     refine relG_pure (i := 15) (o := ⟨some 34, _, _, _, _, _⟩) (v := ?v60) [(14, 33, 0), (12, 31, 2)] [] rfl rfl (by kernel_rfl) (by kernel_rfl) (fun t w1 hB hf hbf => ?y60) ?n60
     case y60 =>
      simp only [DepF, List.getD_cons_zero, List.getD_cons_succ] at hf
      obtain ⟨⟨_, ⟨e33, i33⟩, rfl⟩, ⟨_, ⟨e31, i31⟩, rfl⟩, _⟩ := hf
      clear hbf
      have bw := BW2.out.trans (hB.mono BW2.out.size)
      have yv := boxStays XV.out hB
      have v0 := cell_of_row _ z 0 _ _ _ yv
      have v1 := cell_of_row _ z 1 _ _ _ yv
      have v2 := cell_of_row _ z 2 _ _ _ yv
      have ys := boxStays XS.out hB
      have s0 := cell_of_row _ (z + 1) 0 _ _ _ ys
      have s1 := cell_of_row _ (z + 1) 1 _ _ _ ys
      have s2 := cell_of_row _ (z + 1) 2 _ _ _ ys
      have s3 := cell_of_row _ (z + 1) 3 _ _ _ ys
      have s4 := cell_of_row _ (z + 1) 4 _ _ _ ys
      clear yv ys
      obtain ⟨p0, p1, p2, p3, p4, p5⟩ := PC.out w1 bw
      refine Or.inl ⟨(by have hg := getD_some i31; simp [Region.wanted, yielded, hg]), ?_⟩
      rintro _ rfl
      go_simp <;> with_reducible rfl
     refine relG_pure (i := 16) (o := ⟨some 35, _, _, _, _, _⟩) (v := ?v61) [(15, 34, 0)] [3] rfl rfl (by kernel_rfl) (by kernel_rfl) (fun t w1 hB hf hbf => ?y61) ?n61
     case y61 =>
      simp only [DepF, List.getD_cons_zero] at hf
      simp only [BasF] at hbf
      obtain ⟨⟨_, ⟨e34, i34⟩, rfl⟩, _⟩ := hf
      obtain ⟨⟨b3, k3⟩, _⟩ := hbf
      have bw := BW2.out.trans (hB.mono BW2.out.size)
      have yv := boxStays XV.out hB
      have v0 := cell_of_row _ z 0 _ _ _ yv
      have v1 := cell_of_row _ z 1 _ _ _ yv
      have v2 := cell_of_row _ z 2 _ _ _ yv
      have ys := boxStays XS.out hB
      have s0 := cell_of_row _ (z + 1) 0 _ _ _ ys
      have s1 := cell_of_row _ (z + 1) 1 _ _ _ ys
      have s2 := cell_of_row _ (z + 1) 2 _ _ _ ys
      have s3 := cell_of_row _ (z + 1) 3 _ _ _ ys
      have s4 := cell_of_row _ (z + 1) 4 _ _ _ ys
      clear yv ys
      obtain ⟨p0, p1, p2, p3, p4, p5⟩ := PC.out w1 bw
      refine Or.inl ⟨(by have hg := getD_some i34; simp [Region.wanted, yielded, hg]), ?_⟩
      rintro _ rfl
      go_simp <;> with_reducible rfl
     refine relG_pure (i := 17) (o := ⟨some 36, _, _, _, _, _⟩) (v := ?v62) [(16, 35, 0), (15, 34, 1)] [] rfl rfl (by kernel_rfl) (by kernel_rfl) (fun t w1 hB hf hbf => ?y62) ?n62
     case y62 =>
      simp only [DepF, List.getD_cons_zero, List.getD_cons_succ] at hf
      obtain ⟨⟨_, ⟨e35, i35⟩, rfl⟩, ⟨_, ⟨e34, i34⟩, rfl⟩, _⟩ := hf
      clear hbf
      have bw := BW2.out.trans (hB.mono BW2.out.size)
      have yv := boxStays XV.out hB
      have v0 := cell_of_row _ z 0 _ _ _ yv
      have v1 := cell_of_row _ z 1 _ _ _ yv
      have v2 := cell_of_row _ z 2 _ _ _ yv
      have ys := boxStays XS.out hB
      have s0 := cell_of_row _ (z + 1) 0 _ _ _ ys
      have s1 := cell_of_row _ (z + 1) 1 _ _ _ ys
      have s2 := cell_of_row _ (z + 1) 2 _ _ _ ys
      have s3 := cell_of_row _ (z + 1) 3 _ _ _ ys
      have s4 := cell_of_row _ (z + 1) 4 _ _ _ ys
      clear yv ys
      obtain ⟨p0, p1, p2, p3, p4, p5⟩ := PC.out w1 bw
      refine Or.inl ⟨(by have hg := getD_some i34; simp [Region.wanted, yielded, hg]), ?_⟩
      rintro _ rfl
      go_simp <;> with_reducible rfl
     refine relG_pure (i := 18) (o := ⟨some 37, _, _, _, _, _⟩) (v := ?v63) [(15, 34, 2)] [8] rfl rfl (by kernel_rfl) (by kernel_rfl) (fun t w1 hB hf hbf => ?y63) ?n63
     case y63 =>
      simp only [DepF, List.getD_cons_zero, List.getD_cons_succ] at hf
      simp only [BasF] at hbf
      obtain ⟨⟨_, ⟨e34, i34⟩, rfl⟩, _⟩ := hf
      obtain ⟨⟨b8, k8⟩, _⟩ := hbf
      have bw := BW2.out.trans (hB.mono BW2.out.size)
      have yv := boxStays XV.out hB
      have v0 := cell_of_row _ z 0 _ _ _ yv
      have v1 := cell_of_row _ z 1 _ _ _ yv
      have v2 := cell_of_row _ z 2 _ _ _ yv
      have ys := boxStays XS.out hB
      have s0 := cell_of_row _ (z + 1) 0 _ _ _ ys
      have s1 := cell_of_row _ (z + 1) 1 _ _ _ ys
      have s2 := cell_of_row _ (z + 1) 2 _ _ _ ys
      have s3 := cell_of_row _ (z + 1) 3 _ _ _ ys
      have s4 := cell_of_row _ (z + 1) 4 _ _ _ ys
      clear yv ys
      obtain ⟨p0, p1, p2, p3, p4, p5⟩ := PC.out w1 bw
      refine Or.inl ⟨(by have hg := getD_some i34; simp [Region.wanted, yielded, hg]), ?_⟩
      rintro _ rfl
      go_simp <;> with_reducible rfl
     refine relG_pure (i := 19) (o := ⟨some 38, _, _, _, _, _⟩) (v := ?v64) [(18, 37, 0), (15, 34, 3)] [] rfl rfl (by kernel_rfl) (by kernel_rfl) (fun t w1 hB hf hbf => ?y64) ?n64
     case y64 =>
      simp only [DepF, List.getD_cons_zero, List.getD_cons_succ] at hf
      obtain ⟨⟨_, ⟨e37, i37⟩, rfl⟩, ⟨_, ⟨e34, i34⟩, rfl⟩, _⟩ := hf
      clear hbf
      have bw := BW2.out.trans (hB.mono BW2.out.size)
      have yv := boxStays XV.out hB
      have v0 := cell_of_row _ z 0 _ _ _ yv
      have v1 := cell_of_row _ z 1 _ _ _ yv
      have v2 := cell_of_row _ z 2 _ _ _ yv
      have ys := boxStays XS.out hB
      have s0 := cell_of_row _ (z + 1) 0 _ _ _ ys
      have s1 := cell_of_row _ (z + 1) 1 _ _ _ ys
      have s2 := cell_of_row _ (z + 1) 2 _ _ _ ys
      have s3 := cell_of_row _ (z + 1) 3 _ _ _ ys
      have s4 := cell_of_row _ (z + 1) 4 _ _ _ ys
      clear yv ys
      obtain ⟨p0, p1, p2, p3, p4, p5⟩ := PC.out w1 bw
      refine Or.inl ⟨(by have hg := getD_some i34; simp [Region.wanted, yielded, hg]), ?_⟩
      rintro _ rfl
      go_simp <;> with_reducible rfl
     refine relG_pure (i := 20) (o := ⟨some 39, _, _, _, _, _⟩) (v := ?v65) [(17, 36, 2), (19, 38, 0), (15, 34, 4)] [] rfl rfl (by kernel_rfl) (by kernel_rfl) (fun t w1 hB hf hbf => ?y65) ?n65
     case y65 =>
      simp only [DepF, List.getD_cons_zero, List.getD_cons_succ] at hf
      obtain ⟨⟨_, ⟨e36, i36⟩, rfl⟩, ⟨_, ⟨e38, i38⟩, rfl⟩, ⟨_, ⟨e34, i34⟩, rfl⟩, _⟩ := hf
      clear hbf
      have bw := BW2.out.trans (hB.mono BW2.out.size)
      have yv := boxStays XV.out hB
      have v0 := cell_of_row _ z 0 _ _ _ yv
      have v1 := cell_of_row _ z 1 _ _ _ yv
      have v2 := cell_of_row _ z 2 _ _ _ yv
      have ys := boxStays XS.out hB
      have s0 := cell_of_row _ (z + 1) 0 _ _ _ ys
      have s1 := cell_of_row _ (z + 1) 1 _ _ _ ys
      have s2 := cell_of_row _ (z + 1) 2 _ _ _ ys
      have s3 := cell_of_row _ (z + 1) 3 _ _ _ ys
      have s4 := cell_of_row _ (z + 1) 4 _ _ _ ys
      clear yv ys
      obtain ⟨p0, p1, p2, p3, p4, p5⟩ := PC.out w1 bw
      refine Or.inl ⟨(by have hg := getD_some i34; simp [Region.wanted, yielded, hg]), ?_⟩
      rintro _ rfl
      go_simp <;> with_reducible rfl
     refine relG_pure (i := 21) (o := ⟨some 40, _, _, _, _, _⟩) (v := ?v66) [(20, 39, 0), (15, 34, 5)] [] rfl rfl (by kernel_rfl) (by kernel_rfl) (fun t w1 hB hf hbf => ?y66) ?n66
     case y66 =>
      simp only [DepF, List.getD_cons_zero, List.getD_cons_succ] at hf
      obtain ⟨⟨_, ⟨e39, i39⟩, rfl⟩, ⟨_, ⟨e34, i34⟩, rfl⟩, _⟩ := hf
      clear hbf
      have bw := BW2.out.trans (hB.mono BW2.out.size)
      have yv := boxStays XV.out hB
      have v0 := cell_of_row _ z 0 _ _ _ yv
      have v1 := cell_of_row _ z 1 _ _ _ yv
      have v2 := cell_of_row _ z 2 _ _ _ yv
      have ys := boxStays XS.out hB
      have s0 := cell_of_row _ (z + 1) 0 _ _ _ ys
      have s1 := cell_of_row _ (z + 1) 1 _ _ _ ys
      have s2 := cell_of_row _ (z + 1) 2 _ _ _ ys
      have s3 := cell_of_row _ (z + 1) 3 _ _ _ ys
      have s4 := cell_of_row _ (z + 1) 4 _ _ _ ys
      clear yv ys
      obtain ⟨p0, p1, p2, p3, p4, p5⟩ := PC.out w1 bw
      refine Or.inl ⟨(by have hg := getD_some i34; simp [Region.wanted, yielded, hg]), ?_⟩
      rintro _ rfl
      go_simp <;> with_reducible rfl
     refine relG_pure (i := 22) (o := ⟨some 41, _, _, _, _, _⟩) (v := ?v67) [(21, 40, 0), (15, 34, 6)] [] rfl rfl (by kernel_rfl) (by kernel_rfl) (fun t w1 hB hf hbf => ?y67) ?n67
     case y67 =>
      simp only [DepF, List.getD_cons_zero, List.getD_cons_succ] at hf
      obtain ⟨⟨_, ⟨e40, i40⟩, rfl⟩, ⟨_, ⟨e34, i34⟩, rfl⟩, _⟩ := hf
      clear hbf
      have bw := BW2.out.trans (hB.mono BW2.out.size)
      have yv := boxStays XV.out hB
      have v0 := cell_of_row _ z 0 _ _ _ yv
      have v1 := cell_of_row _ z 1 _ _ _ yv
      have v2 := cell_of_row _ z 2 _ _ _ yv
      have ys := boxStays XS.out hB
      have s0 := cell_of_row _ (z + 1) 0 _ _ _ ys
      have s1 := cell_of_row _ (z + 1) 1 _ _ _ ys
      have s2 := cell_of_row _ (z + 1) 2 _ _ _ ys
      have s3 := cell_of_row _ (z + 1) 3 _ _ _ ys
      have s4 := cell_of_row _ (z + 1) 4 _ _ _ ys
      clear yv ys
      obtain ⟨p0, p1, p2, p3, p4, p5⟩ := PC.out w1 bw
      refine Or.inl ⟨(by have hg := getD_some i34; simp [Region.wanted, yielded, hg]), ?_⟩
      rintro _ rfl
      go_simp <;> with_reducible rfl
     refine relG_pure (i := 23) (o := ⟨some 42, _, _, _, _, _⟩) (v := ?v68) [(15, 34, 7)] [4] rfl rfl (by kernel_rfl) (by kernel_rfl) (fun t w1 hB hf hbf => ?y68) ?n68
     case y68 =>
      simp only [DepF, List.getD_cons_zero, List.getD_cons_succ] at hf
      simp only [BasF] at hbf
      obtain ⟨⟨_, ⟨e34, i34⟩, rfl⟩, _⟩ := hf
      obtain ⟨⟨b4, k4⟩, _⟩ := hbf
      have bw := BW2.out.trans (hB.mono BW2.out.size)
      have yv := boxStays XV.out hB
      have v0 := cell_of_row _ z 0 _ _ _ yv
      have v1 := cell_of_row _ z 1 _ _ _ yv
      have v2 := cell_of_row _ z 2 _ _ _ yv
      have ys := boxStays XS.out hB
      have s0 := cell_of_row _ (z + 1) 0 _ _ _ ys
      have s1 := cell_of_row _ (z + 1) 1 _ _ _ ys
      have s2 := cell_of_row _ (z + 1) 2 _ _ _ ys
      have s3 := cell_of_row _ (z + 1) 3 _ _ _ ys
      have s4 := cell_of_row _ (z + 1) 4 _ _ _ ys
      clear yv ys
      obtain ⟨p0, p1, p2, p3, p4, p5⟩ := PC.out w1 bw
      refine Or.inl ⟨(by have hg := getD_some i34; simp [Region.wanted, yielded, hg]), ?_⟩
      rintro _ rfl
      go_simp <;> with_reducible rfl
     refine relG_call (i := 24) (o := ⟨some 43, _, _, _, _, _⟩) ((fun v _ => v = .int .i64 cv)) [(22, 41, 1), (23, 42, 0), (15, 34, 8)] [] rfl rfl (by kernel_rfl) (by kernel_rfl) ((fun _ _ _ h _ => h)) ?_ ?_
     · intro t w1 hB hf hbf K hK
       simp only [DepF, List.getD_cons_zero, List.getD_cons_succ] at hf
       obtain ⟨⟨_, ⟨e41, i41⟩, rfl⟩, ⟨_, ⟨e42, i42⟩, rfl⟩, ⟨_, ⟨e34, i34⟩, rfl⟩, _⟩ := hf
       clear hbf
       have bw := BW2.out.trans (hB.mono BW2.out.size)
       have yv := boxStays XV.out hB
       have v0 := cell_of_row _ z 0 _ _ _ yv
       have v1 := cell_of_row _ z 1 _ _ _ yv
       have v2 := cell_of_row _ z 2 _ _ _ yv
       have ys := boxStays XS.out hB
       have s0 := cell_of_row _ (z + 1) 0 _ _ _ ys
       have s1 := cell_of_row _ (z + 1) 1 _ _ _ ys
       have s2 := cell_of_row _ (z + 1) 2 _ _ _ ys
       have s3 := cell_of_row _ (z + 1) 3 _ _ _ ys
       have s4 := cell_of_row _ (z + 1) 4 _ _ _ ys
       clear yv ys
       obtain ⟨p0, p1, p2, p3, p4, p5⟩ := PC.out w1 bw
       refine ⟨(by have hg := getD_some i34; simp [Region.wanted, yielded, hg]), ?_⟩
       go_simp
       refine (ref6_Cmp y.1 s w1 YZ.out HSZ.out).mono ?_
       rintro e w2 ⟨rfl, hb⟩
       exact hK.out _ w2 (by rw [CV.out]) hb
     refine relG_pure (i := 25) (o := ⟨some 44, _, _, _, _, _⟩) (v := ?v69) [(24, 43, 0), (15, 34, 9)] [] rfl rfl (by kernel_rfl) (by kernel_rfl) (fun t w1 hB hf hbf => ?y69) ?n69
     case y69 =>
      simp only [DepF, List.getD_cons_zero, List.getD_cons_succ] at hf
      obtain ⟨⟨_, ⟨e43, i43⟩, rfl⟩, ⟨_, ⟨e34, i34⟩, rfl⟩, _⟩ := hf
      clear hbf
      have bw := BW2.out.trans (hB.mono BW2.out.size)
      have yv := boxStays XV.out hB
      have v0 := cell_of_row _ z 0 _ _ _ yv
      have v1 := cell_of_row _ z 1 _ _ _ yv
      have v2 := cell_of_row _ z 2 _ _ _ yv
      have ys := boxStays XS.out hB
      have s0 := cell_of_row _ (z + 1) 0 _ _ _ ys
      have s1 := cell_of_row _ (z + 1) 1 _ _ _ ys
      have s2 := cell_of_row _ (z + 1) 2 _ _ _ ys
      have s3 := cell_of_row _ (z + 1) 3 _ _ _ ys
      have s4 := cell_of_row _ (z + 1) 4 _ _ _ ys
      clear yv ys
      obtain ⟨p0, p1, p2, p3, p4, p5⟩ := PC.out w1 bw
      refine Or.inl ⟨(by have hg := getD_some i34; simp [Region.wanted, yielded, hg]), ?_⟩
      rintro _ rfl
      go_simp <;> with_reducible rfl
     refine relG_pure (i := 26) (o := ⟨some 45, _, _, _, _, _⟩) (v := ?v70) [(15, 34, 10), (25, 44, 0), (12, 31, 13)] [] rfl rfl (by kernel_rfl) (by kernel_rfl) (fun t w1 hB hf hbf => ?y70) ?n70
     case y70 =>
      simp only [DepF, List.getD_cons_zero, List.getD_cons_succ] at hf
      obtain ⟨⟨_, ⟨e34, i34⟩, rfl⟩, ⟨_, ⟨e44, i44⟩, rfl⟩, ⟨_, ⟨e31, i31⟩, rfl⟩, _⟩ := hf
      clear hbf
      have bw := BW2.out.trans (hB.mono BW2.out.size)
      have yv := boxStays XV.out hB
      have v0 := cell_of_row _ z 0 _ _ _ yv
      have v1 := cell_of_row _ z 1 _ _ _ yv
      have v2 := cell_of_row _ z 2 _ _ _ yv
      have ys := boxStays XS.out hB
      have s0 := cell_of_row _ (z + 1) 0 _ _ _ ys
      have s1 := cell_of_row _ (z + 1) 1 _ _ _ ys
      have s2 := cell_of_row _ (z + 1) 2 _ _ _ ys
      have s3 := cell_of_row _ (z + 1) 3 _ _ _ ys
      have s4 := cell_of_row _ (z + 1) 4 _ _ _ ys
      clear yv ys
      obtain ⟨p0, p1, p2, p3, p4, p5⟩ := PC.out w1 bw
      refine Or.inl ⟨(by have hg := getD_some i31; simp [Region.wanted, yielded, hg]), ?_⟩
      rintro _ rfl
      go_simp <;> with_reducible rfl
     refine relG_pure (i := 27) (o := ⟨some 46, _, _, _, _, _⟩) (v := ?v71) [(12, 31, 14), (26, 45, 0)] [] rfl rfl (by kernel_rfl) (by kernel_rfl) (fun t w1 hB hf hbf => ?y71) ?n71
     case y71 =>
      simp only [DepF, List.getD_cons_zero, List.getD_cons_succ] at hf
      obtain ⟨⟨_, ⟨e31, i31⟩, rfl⟩, ⟨_, ⟨e45, i45⟩, rfl⟩, _⟩ := hf
      clear hbf
      have bw := BW2.out.trans (hB.mono BW2.out.size)
      have yv := boxStays XV.out hB
      have v0 := cell_of_row _ z 0 _ _ _ yv
      have v1 := cell_of_row _ z 1 _ _ _ yv
      have v2 := cell_of_row _ z 2 _ _ _ yv
      have ys := boxStays XS.out hB
      have s0 := cell_of_row _ (z + 1) 0 _ _ _ ys
      have s1 := cell_of_row _ (z + 1) 1 _ _ _ ys
      have s2 := cell_of_row _ (z + 1) 2 _ _ _ ys
      have s3 := cell_of_row _ (z + 1) 3 _ _ _ ys
      have s4 := cell_of_row _ (z + 1) 4 _ _ _ ys
      clear yv ys
      obtain ⟨p0, p1, p2, p3, p4, p5⟩ := PC.out w1 bw
      refine Or.inl ⟨wanted_none rfl, ?_⟩
      rintro _ rfl
      go_simp <;> with_reducible rfl
     refine relG_done [(27, 46, 0)] (by kernel_rfl) rfl (by kernel_rfl) (fun f wE hB hf => ?_)
     simp only [FinF, List.getD_cons_zero] at hf
     obtain ⟨⟨_, e46, rfl⟩, _⟩ := hf
     rw [regT_run (s := 19) (n := 28)]
     case h => rfl
     case hb => exact Nat.le_of_ble_eq_true (by kernel_rfl)
     simp only [List.take_succ_cons, List.take_zero, List.map_cons, List.map_nil, List.drop_succ_cons, List.drop_zero, List.cons_append, List.nil_append, e46]
     clear e46
     have HBD := Lib.hid hB
     clear hB
     go_wp2_with fail
     go_meet
     exact ⟨by rw [BD3.out], HBD⟩
 case rest =>
  obtain ⟨rfl, HBC⟩ := hcut
  obtain ⟨w3, rfl⟩ : ∃ X : World, X = wc := ⟨_, rfl⟩
  have hb := HBC.out
  replace HC := Lib.hid (HC.out.push hb)
  clear hb
  have LW3 : Hid (w1.heap.size ≤ w3.heap.size) := Lib.hid (HC.out.to w1 (by simp)).size
  clear HBC XV XS BW2
  have BD1 : Hid (bd = true ↔ (ce = 2 ∨ valG k m l = false ∨ s.ok = false ∨ lastGe l s = true)) := Lib.hid (by
   rw [VV.out, SK.out, LG.out, BD.out]
   by_cases h2 : ce = 2 <;> cases vv <;> cases sk <;> cases lg <;> simp [h2])
  clear VV SK LG BD
  cases bd
  case true =>
   have hres : Hid (re = (0, 0, [], 2)) := Lib.hid (by rw [← RE.out]; unfold applyG; rw [if_pos (BD1.out.1 rfl)])
   have HRX := Lib.hid (boxStays HR.out (HC.out.to w1 (by simp)))
   go_wp2_with (refine wpList_store_row rfl 79 (.tmp 6) (.tmp 47) rfl (z + 1 + 1 + 1) #[.int .i64 0, .int .i64 0, .slice none 0 0] rfl rfl 79 _ HRX.out (by kernel_rfl) rfl (by simp [Value.oneCell']) ?_)
   have hx := setRow_heap _ _ _ #[.int .i64 0, .int .i64 0, .slice none 0 0] _ _ HRX.out
   have r0 := cell_of_row _ _ 0 _ _ _ hx
   have r1 := cell_of_row _ _ 1 _ _ _ hx
   have r2 := cell_of_row _ _ 2 _ _ _ hx
   refine bodyPost_ret (v := .tuple #[.agg #[.int .i64 0, .int .i64 0, .slice none 0 0], .int .i64 2]) (by simp [results, Tryz.results38, go_sem, r0, r1, r2]) rfl ?_
   rw [hres.out]
   exact ⟨none, 0, 0, rfl, CellsAt.nil _ _, rfl, Nat.le_refl _, fun ad had => (by cases had), below_setRow (HC.out.to w (by simp)) WZ.out _⟩
  have NB : Hid (¬ (ce = 2 ∨ valG k m l = false ∨ s.ok = false ∨ lastGe l s = true)) := Lib.hid (fun h => by have := BD1.out.2 h; cases this)
  clear BD1
  by_cases hc : ce = 0
  case neg =>
   have hcb : (ce != 0) = true := by simp [hc]
   have hres : Hid (re = (0, 0, [], 7)) := Lib.hid (by rw [← RE.out]; unfold applyG; rw [if_neg NB.out, if_pos (.inl hc)])
   clear hc
   have HRX := Lib.hid (boxStays HR.out (HC.out.to w1 (by simp)))
   go_wp2_with (refine wpList_store_row rfl 79 (.tmp 6) (.tmp 57) rfl (z + 1 + 1 + 1) #[.int .i64 0, .int .i64 0, .slice none 0 0] rfl rfl 79 _ HRX.out (by kernel_rfl) rfl (by simp [Value.oneCell']) ?_)
   have hx := setRow_heap _ _ _ #[.int .i64 0, .int .i64 0, .slice none 0 0] _ _ HRX.out
   have r0 := cell_of_row _ _ 0 _ _ _ hx
   have r1 := cell_of_row _ _ 1 _ _ _ hx
   have r2 := cell_of_row _ _ 2 _ _ _ hx
   refine bodyPost_ret (v := .tuple #[.agg #[.int .i64 0, .int .i64 0, .slice none 0 0], .int .i64 7]) (by simp [results, Tryz.results38, go_sem, r0, r1, r2]) rfl ?_
   rw [hres.out]
   exact ⟨none, 0, 0, rfl, CellsAt.nil _ _, rfl, Nat.le_refl _, fun ad had => (by cases had), below_setRow (HC.out.to w (by simp)) WZ.out _⟩
  have hcb : (ce != 0) = false := by simp [hc]
  have HCE := Lib.hid hc
  clear hc
  by_cases hk : pk = k
  case neg =>
   have hkb : (pk != k) = true := by simp [hk]
   have hres : Hid (re = (0, 0, [], 7)) := Lib.hid (by rw [← RE.out]; unfold applyG; rw [if_neg NB.out, if_pos (.inr hk)])
   clear hk
   have kV0 := cell_of_row _ _ 0 _ _ _ (boxStays HV.out (HC.out.to w1 (by simp)))
   have kV1 := cell_of_row _ _ 1 _ _ _ (boxStays HV.out (HC.out.to w1 (by simp)))
   have kV2 := cell_of_row _ _ 2 _ _ _ (boxStays HV.out (HC.out.to w1 (by simp)))
   have kO0 := cell_of_row _ _ 0 _ _ _ (boxStays HO.out (HC.out.to w1 (by simp)))
   have kO1 := cell_of_row _ _ 1 _ _ _ (boxStays HO.out (HC.out.to w1 (by simp)))
   have kO2 := cell_of_row _ _ 2 _ _ _ (boxStays HO.out (HC.out.to w1 (by simp)))
   have kO3 := cell_of_row _ _ 3 _ _ _ (boxStays HO.out (HC.out.to w1 (by simp)))
   have kO4 := cell_of_row _ _ 4 _ _ _ (boxStays HO.out (HC.out.to w1 (by simp)))
   have kO5 := cell_of_row _ _ 5 _ _ _ (boxStays HO.out (HC.out.to w1 (by simp)))
   have HRX := Lib.hid (boxStays HR.out (HC.out.to w1 (by simp)))
   go_wp2_with (refine wpList_store_row rfl 79 (.tmp 6) (.tmp 57) rfl (z + 1 + 1 + 1) #[.int .i64 0, .int .i64 0, .slice none 0 0] rfl rfl 79 _ HRX.out (by kernel_rfl) rfl (by simp [Value.oneCell']) ?_)
   clear kV0 kV1 kV2 kO0 kO1 kO2 kO3 kO4 kO5
   have hx := setRow_heap _ _ _ #[.int .i64 0, .int .i64 0, .slice none 0 0] _ _ HRX.out
   have r0 := cell_of_row _ _ 0 _ _ _ hx
   have r1 := cell_of_row _ _ 1 _ _ _ hx
   have r2 := cell_of_row _ _ 2 _ _ _ hx
   refine bodyPost_ret (v := .tuple #[.agg #[.int .i64 0, .int .i64 0, .slice none 0 0], .int .i64 7]) (by simp [results, Tryz.results38, go_sem, r0, r1, r2]) rfl ?_
   rw [hres.out]
   exact ⟨none, 0, 0, rfl, CellsAt.nil _ _, rfl, Nat.le_refl _, fun ad had => (by cases had), below_setRow (HC.out.to w (by simp)) WZ.out _⟩
  have hkb : (pk != k) = false := by simp [hk]
  obtain ⟨mm, hmm⟩ : ∃ x, IntKind.i64.wrap (m + pm) = x := ⟨_, rfl⟩
  have hres : Hid (re = (k, mm, newG pd pt s l, 0)) := Lib.hid (by
   rw [← RE.out]
   unfold applyG
   rw [if_neg NB.out, if_neg, hmm]
   rintro (h | h)
   · exact h HCE.out
   · exact h hk)
  clear hk
  have kV0 := cell_of_row _ _ 0 _ _ _ (boxStays HV.out (HC.out.to w1 (by simp)))
  have kV1 := cell_of_row _ _ 1 _ _ _ (boxStays HV.out (HC.out.to w1 (by simp)))
  have kV2 := cell_of_row _ _ 2 _ _ _ (boxStays HV.out (HC.out.to w1 (by simp)))
  have kO0 := cell_of_row _ _ 0 _ _ _ (boxStays HO.out (HC.out.to w1 (by simp)))
  have kO1 := cell_of_row _ _ 1 _ _ _ (boxStays HO.out (HC.out.to w1 (by simp)))
  have kO2 := cell_of_row _ _ 2 _ _ _ (boxStays HO.out (HC.out.to w1 (by simp)))
  have kO3 := cell_of_row _ _ 3 _ _ _ (boxStays HO.out (HC.out.to w1 (by simp)))
  have kO4 := cell_of_row _ _ 4 _ _ _ (boxStays HO.out (HC.out.to w1 (by simp)))
  have kO5 := cell_of_row _ _ 5 _ _ _ (boxStays HO.out (HC.out.to w1 (by simp)))
  go_upto_region 8 with (fail)
  clear hcb hkb
  clear kV0 kV1 kV2 kO0 kO1 kO2 kO3 kO4 kO5
  obtain ⟨y, hy⟩ : ∃ c, w3.heap.size = c := ⟨_, rfl⟩
  try rw [hy]
  obtain ⟨w5, hw5⟩ : ∃ X, allocs w3 [.cells #[.int .i64 k, .int .i64 m, .slice none 0 0] 79] = X := ⟨_, rfl⟩
  rw [show w3.alloc (.cells #[.int .i64 k, .int .i64 m, .slice none 0 0] 79) = w5 from hw5]
  have hb : Below w3.heap.size w3 w5 := by rw [← hw5]; exact allocs_below _ _
  have HT : Hid (w5.heap[y]? = some (.cells #[.int .i64 k, .int .i64 m, .slice none 0 0] 79 (0, 0))) := Lib.hid (by have := allocs_get [.cells #[.int .i64 k, .int .i64 m, .slice none 0 0] 79] w3 0 _ rfl; rw [hw5, hy] at this; exact this)
  have Sy : Hid (w3.heap.size = y) := Lib.hid hy
  replace HC := Lib.hid (HC.out.push hb)
  clear hb hw5 hy
  have BW5 := Lib.hid (HC.out.to w (by simp))
  have XV := Lib.hid (boxStays HV.out (HC.out.to w1 (by simp)))
  have XS := Lib.hid (boxStays HS.out (HC.out.to w1 (by simp)))
  have XO := Lib.hid (boxStays HO.out (HC.out.to w1 (by simp)))
  have XR := Lib.hid (boxStays HR.out (HC.out.to w1 (by simp)))
  have WY : Hid (z + 1 + 1 + 1 < y ∧ y < w5.heap.size) := Lib.hid ⟨by have h1 := (Array.getElem?_eq_some_iff.1 HR.out).1; have h2 := Sy.out; have h3 := LW3.out; omega, (Array.getElem?_eq_some_iff.1 HT.out).1⟩
  have ET := Lib.hid elT
  clear HC HV HS HO HR RE NB
  go_wp2_with fail
  go_loopw [11] (fun j wr => ∃ (q : Nat) (wq : World), wq = wr ∧ j = .int .i64 (q : Int) ∧ q ≤ n ∧ Hid (ThI y k m w5 (baseG pd pt (l.take q)) wq)) (fun j _ => n - (intOf j).toNat)
  case atStart => exact ⟨0, _, rfl, rfl, Nat.zero_le _, Lib.hid ⟨none, 0, 0, HT.out, by rw [List.take_zero, base_nil]; rfl, by rw [List.take_zero, base_nil]; exact ⟨rfl, Or.inl ⟨rfl, rfl⟩⟩, ⟨rfl, rfl, rfl, Nat.le_refl _, fun _ _ _ => rfl⟩⟩⟩
  case round =>
   obtain ⟨q, wq, rfl, rfl, hq, HI⟩ := hrel
   obtain ⟨av, an, ac, hTr, hanl, hown, hgr⟩ := HI.out
   have GR1 := Lib.hid hgr
   have TR1 := Lib.hid hTr
   have BR1 : Hid (Below w.heap.size w wq) := Lib.hid (BW5.out.grown hgr BW5.out.size (fun k hk => by cases hk; have := WY.out; have := WZ.out; omega))
   have XV1 := Lib.hid (grow_keep hgr XV.out (fun e => by have h1 := WY.out; have h2 := Option.some.inj e; omega))
   have XO1 := Lib.hid (grow_keep hgr XO.out (fun e => by have h1 := WY.out; have h2 := Option.some.inj e; omega))
   by_cases hlt : q < n
   · have hqi : (q : Int) < (n : Int) := by omega
     have hql : q < l.length := by have := HN.out; omega
     obtain ⟨ba', oa', ha, cx⟩ := els_get (HL.out.below BR1.out rfl) q hql
     subst ha
     have SN := Lib.hid (base_step pd pt l q hql)
     have OW := Lib.hid hown
     have AN := Lib.hid hanl
     have HAN : an ≤ 100000 := by
      have h1 := base_len pd pt (l.take q)
      rw [List.length_take] at h1
      omega
     obtain ⟨acc, hacc⟩ : ∃ z, baseG pd pt (l.take q) = z := ⟨_, rfl⟩
     rw [hacc] at OW AN SN
     obtain ⟨x, hx⟩ : ∃ x, l[q] = x := ⟨_, rfl⟩
     rw [hx] at cx SN
     obtain ⟨p0, p1, p2, p3, p4, p5⟩ := cx
     clear hx hTr hanl hown hgr hacc HI
     have v2 := cell_of_row _ z 2 _ _ _ XV1.out
     go_upto_region 12 with (fail)
     clear p0 p1 p2 p3 p4 p5 v2
     obtain ⟨w6, hw6⟩ : ∃ W, wq.alloc (.cells #[.int .i64 x.1.g, .int .i64 x.1.r, .string x.1.l, .int .i64 x.1.n, .int .i64 x.1.i, .string x.2] 53) = W := ⟨_, rfl⟩
     have B6 : Hid (Below wq.heap.size wq w6) := Lib.hid (by rw [← hw6]; exact below_new _ _)
     have hx6 : w6.heap[wq.heap.size]? = some (.cells #[.int .i64 x.1.g, .int .i64 x.1.r, .string x.1.l, .int .i64 x.1.n, .int .i64 x.1.i, .string x.2] 53 (0, 0)) := by rw [← hw6]; exact heap_alloc_new _ _
     rw [hw6]
     obtain ⟨u, hu⟩ : ∃ u, wq.heap.size = u := ⟨_, rfl⟩
     rw [hu] at hx6
     try rw [hu]
     have X6 := Lib.hid hx6
     clear hw6 hx6 hu
     have XO6 := Lib.hid (boxStays XO1.out B6.out)
     obtain ⟨gb, hgb⟩ : ∃ b, goneG pd pt q x = b := ⟨_, rfl⟩
     rw [hgb] at SN
     have HGB := Lib.hid hgb
     clear hgb
     go_cut [13] (fun u13 wx => u13 = .bool gb ∧ w6 = wx)
     case first =>
      have o3 := cell_of_row _ (z + 1 + 1) 3 _ _ _ XO6.out
      have o5 := cell_of_row _ (z + 1 + 1) 5 _ _ _ XO6.out
      have x5 := cell_of_row _ u 5 _ _ _ X6.out
      by_cases h3 : pd = 3
      · have e3 : (pd == 3) = true := by simp [h3]
        have e4 : (pd == 4) = false := by simp [h3]
        have e6 : (pd == 6) = false := by simp [h3]
        by_cases hxt : x.2 = pt
        · obtain rfl : true = gb := by rw [← HGB.out]; unfold goneG; simp [h3, hxt]
          have et : (x.2.toList == pt.toList) = true := by rw [Pm.eq_iff]; simpa using hxt
          clear h3 hxt HGB
          go_wp2_with fail
          go_meet
          exact ⟨rfl, by first | trivial | rfl⟩
        · obtain rfl : false = gb := by rw [← HGB.out]; unfold goneG; simp [h3, hxt]
          have et : (x.2.toList == pt.toList) = false := by rw [Pm.eq_iff]; simpa using hxt
          clear h3 hxt HGB
          go_wp2_with fail
          go_meet
          exact ⟨rfl, by first | trivial | rfl⟩
      have e3 : (pd == 3) = false := by simp [h3]
      by_cases h4 : pd = 4
      · have e4 : (pd == 4) = true := by simp [h4]
        obtain rfl : true = gb := by rw [← HGB.out]; unfold goneG; simp [h4]
        clear h3 h4 HGB
        go_wp2_with fail
        go_meet
        exact ⟨rfl, by first | trivial | rfl⟩
      have e4 : (pd == 4) = false := by simp [h4]
      by_cases h6 : pd = 6
      · have e6 : (pd == 6) = true := by simp [h6]
        by_cases h0 : q = 0
        · obtain rfl : true = gb := by rw [← HGB.out]; unfold goneG; simp [h6, h0]
          have e0 : ((q : Int) == 0) = true := by simp [h0]
          clear h3 h4 h6 h0 HGB
          go_wp2_with fail
          go_meet
          exact ⟨rfl, by first | trivial | rfl⟩
        · obtain rfl : false = gb := by rw [← HGB.out]; unfold goneG; simp [h3, h4, h0]
          have e0 : ((q : Int) == 0) = false := by simp [h0]
          clear h3 h4 h6 h0 HGB
          go_wp2_with fail
          go_meet
          exact ⟨rfl, by first | trivial | rfl⟩
      have e6 : (pd == 6) = false := by simp [h6]
      obtain rfl : false = gb := by rw [← HGB.out]; unfold goneG; simp [h3, h4, h6]
      clear h3 h4 h6 HGB
      go_wp2_with fail
      go_meet
      exact ⟨rfl, by first | trivial | rfl⟩
     case rest =>
      obtain ⟨rfl, rfl⟩ := hcut
      have B5 : Hid (Below w5.heap.size wq w6) := Lib.hid (B6.out.mono GR1.out.size)
      have T6 : Hid (w6.heap[y]? = some (.cells #[.int .i64 k, .int .i64 m, .slice av an ac] 79 (0, 0))) := Lib.hid (boxStays TR1.out B6.out)
      have OW6 := Lib.hid (own_later OW.out B6.out (Nat.le_refl _))
      cases gb
      case true =>
       go_wp2_with fail
       go_roundw
       case rel => exact ⟨q + 1, _, rfl, by go_num, by omega, Lib.hid ⟨av, an, ac, T6.out, by rw [SN.out, if_pos rfl, List.append_nil]; exact AN.out, by rw [SN.out, if_pos rfl, List.append_nil]; exact OW6.out, grown_bel GR1.out B5.out⟩⟩
       case measure => simp [intOf]; omega
      case false =>
       have q0 := cell_of_row _ _ 0 _ _ _ X6.out
       have q1 := cell_of_row _ _ 1 _ _ _ X6.out
       have q2 := cell_of_row _ _ 2 _ _ _ X6.out
       have q3 := cell_of_row _ _ 3 _ _ _ X6.out
       have q4 := cell_of_row _ _ 4 _ _ _ X6.out
       have q5 := cell_of_row _ _ 5 _ _ _ X6.out
       have t2 := cell_of_row _ y 2 _ _ _ T6.out
       have SB : Hid (w5.heap.size ≤ w6.heap.size ∧ y < w5.heap.size) := Lib.hid ⟨Nat.le_trans GR1.out.size B6.out.size, WY.out.2⟩
       go_wp2_with (at_builtin; go_must (refine wpList_app rfl _ _ 22 22 rfl w5.heap.size 53 _ 6 64 ET.out (.slice av an ac) an (elsV acc) rfl (OW6.out.alloc _) _ 1 (elV x) rfl ((CellsAt.new w6 53 (0, 0) (elV x)).srcN rfl (fun u hu => elsV_one [x] u (by simpa [elsV] using hu)) Tryz.underlying22 1 (by decide)) (by omega) (by omega) (by have := SB.out; simp; omega) ?_); go_must (intro v10 w10 hown hgr10 hbel hor); go_must (obtain ⟨a10, c10, rfl, _⟩ := own_slice hown); have OW10 := Lib.hid hown; have B10 : Hid (Below w5.heap.size w6 w10) := Lib.hid (((below_new w6 (.cells #[.int .i64 x.1.g, .int .i64 x.1.r, .string x.1.l, .int .i64 x.1.n, .int .i64 x.1.i, .string x.2] 53)).mono SB.out.1).trans hbel); have T10 : Hid (w10.heap[y]? = some (.cells #[.int .i64 k, .int .i64 m, .slice av an ac] 79 (0, 0))) := Lib.hid ((B10.out.block y SB.out.2).trans T6.out); have t10 := cell_of_row _ y 2 _ _ _ T10.out; have f10 := frozen_of_row _ y 2 _ _ T10.out; clear hown hgr10 hbel hor q0 q1 q2 q3 q4 q5 t2)
       go_roundw
       case rel =>
        refine ⟨q + 1, _, rfl, by go_num, by omega, Lib.hid ⟨a10, an + 1, c10, ?_, ?_, ?_, ?_⟩⟩
        · have := heap_setCell_same w10 y 2 _ _ (.slice a10 (an + 1) c10) T10.out; simpa using this
        · rw [SN.out, if_neg (by simp), List.length_append, ← AN.out]; rfl
        · rw [SN.out, if_neg (by simp), elsV_append, show elsV [x] = elV x by simp [elsV]]
          exact own_grown OW10.out (grown_set w10 y 2 _) (fun k hk e => by have h1 := (OW10.out.lt k hk).1; have h2 := SB.out; cases e; omega)
        · exact grown_tr (grown_bel (grown_bel GR1.out B5.out) B10.out) (grown_set w10 y 2 _)
       case measure => simp [intOf]; omega
   · obtain rfl : q = n := by omega
     have hqi : ¬ (q : Int) < (q : Int) := by omega
     have TK : Hid (l.take q = l) := Lib.hid (List.take_of_length_le (by rw [HN.out]; exact Nat.le_refl _))
     rw [TK.out] at hanl hown
     have OWF := Lib.hid hown
     have ANF := Lib.hid hanl
     have BAN : an ≤ 100000 := by
      have h1 := base_len pd pt l
      have h2 := HN.out
      omega
     clear hanl hown hTr hgr HI
     have t1 := cell_of_row _ y 1 _ _ _ TR1.out
     have f1 := frozen_of_row _ y 1 _ _ TR1.out
     have o4 := cell_of_row _ (z + 1 + 1) 4 _ _ _ XO1.out
     go_upto_region 16 with (fail)
     clear t1 f1 o4
     have T7 : Hid ((wq.setCell ⟨y, 1, none⟩ (.int .i64 mm)).heap[y]? = some (.cells #[.int .i64 k, .int .i64 mm, .slice av an ac] 79 (0, 0))) := Lib.hid (by have := heap_setCell_same wq y 1 _ _ (.int .i64 mm) TR1.out; simpa using this)
     have OW7 := Lib.hid (own_grown OWF.out (grown_set wq y 1 (.int .i64 mm)) (fun k' hk' e => by have h1 := (OWF.out.lt k' hk').1; have h2 := WY.out; cases e; omega))
     have GR7 : Hid (w5.grownBy (wq.setCell ⟨y, 1, none⟩ (.int .i64 mm)) (some y)) := Lib.hid (grown_tr GR1.out (grown_set wq y 1 _))
     generalize wq.setCell ⟨y, 1, none⟩ (.int .i64 mm) = w7 at *
     have BW7 : Hid (Below w.heap.size w w7) := Lib.hid (BW5.out.grown GR7.out BW5.out.size (fun k hk => by cases hk; have := WY.out; have := WZ.out; omega))
     have XO7 := Lib.hid (grow_keep GR7.out XO.out (fun e => by have h1 := WY.out; have h2 := Option.some.inj e; omega))
     have XS7 := Lib.hid (grow_keep GR7.out XS.out (fun e => by have h1 := WY.out; have h2 := Option.some.inj e; omega))
     have XR7 := Lib.hid (grow_keep GR7.out XR.out (fun e => by have h1 := WY.out; have h2 := Option.some.inj e; omega))
     have S57 : Hid (w5.heap.size ≤ w7.heap.size) := Lib.hid GR7.out.size
     clear TR1 GR1 OWF
     have HC : Hid (Chain [w7] w7) := Lib.hid (Chain.one w7)
     have HO := XO7
     have kO0 := cell_of_row _ _ 0 _ _ _ HO.out
     have kO1 := cell_of_row _ _ 1 _ _ _ HO.out
     have kO2 := cell_of_row _ _ 2 _ _ _ HO.out
     have kO3 := cell_of_row _ _ 3 _ _ _ HO.out
     have kO4 := cell_of_row _ _ 4 _ _ _ HO.out
     have kO5 := cell_of_row _ _ 5 _ _ _ HO.out
     go_wp2_with fail
     refine (kr_Stamped pl pk px pd pm pt pa pn pc _ (HP.out.below BW7.out rfl) HPN.out).mono ?_
     rintro e w8 ⟨rfl, hb⟩
     clear kO0 kO1 kO2 kO3 kO4 kO5
     replace HC := Lib.hid (HC.out.push hb)
     clear hb
     rw [show stampedG pl pk px pd pm pt = bringsG pd from by unfold stampedG; rw [CE.out, HCE.out]; rfl]
     obtain ⟨bg, hbg⟩ : ∃ b, bringsG pd = b := ⟨_, rfl⟩
     rw [hbg]
     have HRE2 : Hid (re = (k, mm, baseG pd pt l ++ (if bg = true then [(s, pt)] else []), 0)) := Lib.hid (by rw [hres.out]; unfold newG; rw [hbg])
     clear hbg
     have T8 := Lib.hid (boxStays T7.out (HC.out.to w7 (by simp)))
     have OW8 := Lib.hid (own_below OW7.out (HC.out.to w7 (by simp)) (fun k' hk => (OW7.out.lt k' hk).2))
     have XO8 := Lib.hid (boxStays XO7.out (HC.out.to w7 (by simp)))
     have XS8 := Lib.hid (boxStays XS7.out (HC.out.to w7 (by simp)))
     have XR8 := Lib.hid (boxStays XR7.out (HC.out.to w7 (by simp)))
     have BW8 : Hid (Below w.heap.size w w8) := Lib.hid (BW7.out.trans ((HC.out.to w7 (by simp)).mono BW7.out.size))
     have S58 : Hid (w5.heap.size ≤ w8.heap.size) := Lib.hid (Nat.le_trans S57.out (HC.out.to w7 (by simp)).size)
     clear HC HO T7 OW7 XO7 XS7 XR7
     cases bg
     case false =>
      have t5 := cell_of_row _ y 0 _ _ _ T8.out
      have t6 := cell_of_row _ y 1 _ _ _ T8.out
      have t7 := cell_of_row _ y 2 _ _ _ T8.out
      go_wp2_with (refine wpList_store_row rfl 79 (.tmp 6) (.tmp 122) rfl (z + 1 + 1 + 1) #[.int .i64 k, .int .i64 mm, (.slice av an ac)] rfl rfl 79 _ XR8.out (by kernel_rfl) rfl (by simp [Value.oneCell']) ?_)
      have hx := setRow_heap _ _ _ #[.int .i64 k, .int .i64 mm, (.slice av an ac)] _ _ XR8.out
      have r0 := cell_of_row _ _ 0 _ _ _ hx
      have r1 := cell_of_row _ _ 1 _ _ _ hx
      have r2 := cell_of_row _ _ 2 _ _ _ hx
      refine bodyPost_ret (v := .tuple #[.agg #[.int .i64 k, .int .i64 mm, (.slice av an ac)], .int .i64 0]) (by simp [results, Tryz.results38, go_sem, r0, r1, r2]) rfl ?_
      rw [HRE2.out]
      refine ⟨av, an, ac, rfl, ?_, ?_, ?_, fun ad had => ?_, below_setRow BW8.out WZ.out _⟩
      · rw [if_neg (by simp), List.append_nil]
        exact cells_grown (CellsAt.ownN OW8.out) (grown_setRow _ _ _) (fun ad had => by have h1 := (OW8.out.lt ad.block (by rw [had]; rfl)).1; have h2 := WY.out; omega)
      · rw [if_neg (by simp), List.append_nil]; exact ANF.out
      · rcases OW8.out.2 with ⟨e, h0⟩ | ⟨g, _, _, e, _, _, h1, _⟩
        · cases e; exact Nat.le_refl _
        · cases e; exact h1
      · have h1 := (OW8.out.lt ad.block (by rw [had]; rfl)).1
        have h2 := WY.out
        have h3 := WZ.out
        omega
     case true =>
      have s0 := cell_of_row _ (z + 1) 0 _ _ _ XS8.out
      have s1 := cell_of_row _ (z + 1) 1 _ _ _ XS8.out
      have s2 := cell_of_row _ (z + 1) 2 _ _ _ XS8.out
      have s3 := cell_of_row _ (z + 1) 3 _ _ _ XS8.out
      have s4 := cell_of_row _ (z + 1) 4 _ _ _ XS8.out
      have o5 := cell_of_row _ (z + 1 + 1) 5 _ _ _ XO8.out
      have t2 := cell_of_row _ y 2 _ _ _ T8.out
      have NY : Hid (y < w8.heap.size) := Lib.hid (Array.getElem?_eq_some_iff.1 T8.out).1
      go_upto_region 18 with (at_builtin; go_must (refine wpList_app rfl _ _ 22 22 rfl w5.heap.size 53 _ 6 64 ET.out (.slice av an ac) an (elsV (baseG pd pt l)) rfl (OW8.out.alloc _) _ 1 (elV (s, pt)) rfl ((CellsAt.new w8 53 (0, 0) (elV (s, pt))).srcN rfl (fun u hu => elsV_one [(s, pt)] u (by simpa [elsV] using hu)) Tryz.underlying22 1 (by decide)) (by omega) (by omega) (by have := S58.out; simp; omega) ?_); go_must (intro v10 w10 hown hgr10 hbel hor); go_must (obtain ⟨a10, c10, hv10, hn10, hl10, _⟩ := own_slice3 hown); go_must (subst hv10); have OW10 := Lib.hid hown; have HX10 := Lib.hid (And.intro hn10 hl10); have B10 : Hid (Below w5.heap.size w8 w10) := Lib.hid (((below_new w8 (.cells #[.int .i64 s.g, .int .i64 s.r, .string s.l, .int .i64 s.n, .int .i64 s.i, .string pt] 53)).mono S58.out).trans hbel); have T10 : Hid (w10.heap[y]? = some (.cells #[.int .i64 k, .int .i64 mm, .slice av an ac] 79 (0, 0))) := Lib.hid ((B10.out.block y WY.out.2).trans T8.out); have t10 := cell_of_row _ y 2 _ _ _ T10.out; have f10 := frozen_of_row _ y 2 _ _ T10.out; clear hown hgr10 hbel hor hn10 hl10 s0 s1 s2 s3 s4 o5 t2)
      clear t10 f10
      have T11 : Hid ((w10.setCell ⟨y, 2, none⟩ (.slice a10 (an + 1) c10)).heap[y]? = some (.cells #[.int .i64 k, .int .i64 mm, .slice a10 (an + 1) c10] 79 (0, 0))) := Lib.hid (by have := heap_setCell_same w10 y 2 _ _ (.slice a10 (an + 1) c10) T10.out; simpa using this)
      have OW11 := Lib.hid (own_grown OW10.out (grown_set w10 y 2 (.slice a10 (an + 1) c10)) (fun k hk e => by have h1 := (OW10.out.lt k hk).1; have h2 := WY.out; cases e; omega))
      have XR11 : Hid ((w10.setCell ⟨y, 2, none⟩ (.slice a10 (an + 1) c10)).heap[z + 1 + 1 + 1]? = some (.cells #[.int .i64 0, .int .i64 0, .slice none 0 0] 79 (0, 0))) := Lib.hid ((Below.heap_setCell _ _ _ _ (by have := WY.out; show z + 1 + 1 + 1 ≠ y; omega)).trans ((B10.out.block _ (by have := WY.out; omega)).trans XR8.out))
      have BW11 : Hid (Below w.heap.size w (w10.setCell ⟨y, 2, none⟩ (.slice a10 (an + 1) c10))) := Lib.hid ((BW8.out.trans (B10.out.mono BW5.out.size)).setCell (p := ⟨y, 2, none⟩) (by have := WY.out; have := WZ.out; show w.heap.size ≤ y; omega) _)
      generalize w10.setCell ⟨y, 2, none⟩ (.slice a10 (an + 1) c10) = w11 at *
      have t5 := cell_of_row _ y 0 _ _ _ T11.out
      have t6 := cell_of_row _ y 1 _ _ _ T11.out
      have t7 := cell_of_row _ y 2 _ _ _ T11.out
      go_wp2_with (refine wpList_store_row rfl 79 (.tmp 6) (.tmp 122) rfl (z + 1 + 1 + 1) #[.int .i64 k, .int .i64 mm, (.slice a10 (an + 1) c10)] rfl rfl 79 _ XR11.out (by kernel_rfl) rfl (by simp [Value.oneCell']) ?_)
      have hx := setRow_heap _ _ _ #[.int .i64 k, .int .i64 mm, (.slice a10 (an + 1) c10)] _ _ XR11.out
      have r0 := cell_of_row _ _ 0 _ _ _ hx
      have r1 := cell_of_row _ _ 1 _ _ _ hx
      have r2 := cell_of_row _ _ 2 _ _ _ hx
      refine bodyPost_ret (v := .tuple #[.agg #[.int .i64 k, .int .i64 mm, (.slice a10 (an + 1) c10)], .int .i64 0]) (by simp [results, Tryz.results38, go_sem, r0, r1, r2]) rfl ?_
      rw [HRE2.out]
      rw [if_pos trivial]
      have ho := OW11.out
      rw [show elsV (baseG pd pt l) ++ elV (s, pt) = elsV (baseG pd pt l ++ [(s, pt)]) from by rw [elsV_append]; simp [elsV]] at ho
      refine ⟨a10, an + 1, c10, rfl, cells_grown (CellsAt.ownN ho) (grown_setRow _ _ _) (fun ad had => by have h1 := (ho.lt ad.block (by rw [had]; rfl)).1; have h2 := WY.out; omega), by rw [List.length_append, ← ANF.out]; rfl, HX10.out.1, fun ad had => ?_, below_setRow BW11.out WZ.out _⟩
      have h1 := (ho.lt ad.block (by rw [had]; rfl)).1
      have h2 := WY.out
      have h3 := WZ.out
      omega
end Go.Proofs.YtjlliohjeiclaaaGreatDoor
