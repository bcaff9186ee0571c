/- Words, contracts and walks that the proof stands on (KsG KsF KsW Fn KsH KsI KsK GrowN). -/
import Derived.Laws.BitsAllLaws
import Derived.LoopIn
import Derived.LoopNIn
import Derived.OwnWalkIn
import Derived.Scope
import Derived.Shelf.Abstract
import Derived.Shelf.RegionOpen
import Derived.TacticsInMore
import Derived.Test.YtkjchoamdibolaaDoorKC1
import Derived.Test.YtkjchoamdibolaaDoorKC3
import Derived.WalkKit
import Derived.WalkMore
namespace Go.Proofs.YtkjchoamdibolaaDoor
open Go.RowKit Ku St
attribute [local go_sem] Oper.semAt_some
theorem sxT : ElemT Tryd.prog 22 9 (.string ⟨#[]⟩) 1 16 := ElemT.mk Tryd.underlying22 (by kernel_rfl) (by simp [Value.cells])
theorem txV_len (l : List ByteArray) : (txV l).length = l.length := by simp [txV]
theorem txV_one (l : List ByteArray) : ∀ u ∈ txV l, u.oneCell' = true := fun u hu => by
 obtain ⟨x, _, rfl⟩ := List.mem_map.1 hu
 rfl
theorem own_ob {w : World} {base size n : Nat} {e : TypeId} {a : Option Addr} {c : Nat} {xs : List Value} (h : w.ownsRow base e size (.slice a n c) n xs) {ad : Addr} (ha : a = some ad) : ∃ cur fz, w.heap[ad.block]? = some (.cells cur e fz) := by
 rcases h.2 with ⟨h1, _⟩ | ⟨g, cap', cur, hv, h1, h2, _⟩
 · cases h1; cases ha
 · cases hv; cases ha
   exact ⟨_, _, h2⟩
theorem own_at {w : World} {base size n : Nat} {e : TypeId} {a : Option Addr} {c : Nat} {xs : List Value} (h : w.ownsRow base e size (.slice a n c) n xs) : a = none ∨ ∃ g, a = some ⟨g, 0, none⟩ ∧ base ≤ g ∧ g < w.heap.size := by
 rcases h.2 with ⟨h1, _⟩ | ⟨g, cap', cur, hv, h1, h2, _⟩
 · cases h1; exact .inl rfl
 · cases hv
   exact .inr ⟨g, rfl, h1, (Array.getElem?_eq_some_iff.1 h2).1⟩
structure FrAt (w : World) (l : List ByteArray) (z : Nat) (ar : Option Addr) (n cr : Nat) : Prop where
 box : w.heap[z]? = some (.cells #[.slice ar n cr] 22 (0, 0))
 row : CellsAt w ar (txV l)
 len : n = l.length
 cap : n ≤ cr
 form : ar = none ∨ ∃ g, ar = some ⟨g, 0, none⟩
 ne : ∀ ad, ar = some ad → ad.block ≠ z ∧ ad.block < w.heap.size
 obj : ∀ ad, ar = some ad → ∃ cur fz, w.heap[ad.block]? = some (.cells cur 9 fz)
set_option maxRecDepth 100000 in
theorem key_Fronts (l : List ByteArray) (a : Option Addr) (n c : Nat) (w : World) (hl : CellsAt w a (txV l)) (hn : n = l.length) (hb : n ≤ 1000000) :
 Calls Tryd.prog 9 #[.slice a n c] w fun e w' => ∃ z ar cr, e = .returned (.func (.func 32) #[] #[.pointer (some ⟨z, 0, none⟩)]) ∧ FrAt w' l z ar n cr ∧ w.heap.size ≤ z ∧ (∀ ad, ar = some ad → w.heap.size ≤ ad.block) ∧ Below w.heap.size w w' := by
 have HL := Lib.hid hl
 have HN := Lib.hid hn
 have ST := Lib.hid sxT
 have SRC : Hid (∀ W, Below w.heap.size w W → Src Tryd.prog 1 22 (.slice a n c) n (txV l) W) := Lib.hid (fun W hW => (hl.below hW rfl).srcN (by rw [txV_len, Nat.mul_one]; exact hn.symm) (txV_one l) Tryd.underlying22 c (by decide))
 clear hl hn
 go_enter Tryd.func9, Tryd.ntmps9
 go_upto_region 2 with (at_builtin; go_must (refine wpList_app rfl _ _ 22 22 rfl w.heap.size 9 _ 1 16 ST.out (.slice (some ⟨w.heap.size, 0, none⟩) 0 0) 0 [] rfl (own_new w w.heap.size 9 [] (Nat.le_refl _) (Nat.zero_le _)) _ n (txV l) rfl (SRC.out _ (below_new w _)) (by omega) (by omega) (by simp) ?_); go_must (intro v6 w6 hown _ hbel _); go_must (rw [Nat.zero_add, List.nil_append] at hown); go_must (obtain ⟨ar, cr, rfl, hnc, _⟩ := own_slice hown))
 have HO := Lib.hid hown
 have HNC := Lib.hid hnc
 have HB := Lib.hid ((below_new w (.cells #[] 9)).trans hbel)
 have HX := Lib.hid (World.alloc_heap_new w6 (.cells #[.slice ar n cr] 22))
 clear hown hbel hnc
 go_wp2_with fail
 go_ret
 refine ⟨w6.heap.size, ar, cr, rfl, ⟨HX.out, (CellsAt.ownN HO.out).below (below_new w6 _) rfl, HN.out, HNC.out, ?_, fun ad had => ?_, fun ad had => ?_⟩, HB.out.size, fun ad had => ?_, HB.out.trans ((below_new w6 _).mono HB.out.size)⟩
 · rcases own_at HO.out with h | ⟨g, h, _⟩
   · exact .inl h
   · exact .inr ⟨g, h⟩
 · rcases own_at HO.out with h | ⟨g, h, h1, h2⟩
   · rw [h] at had; cases had
   · rw [h] at had; cases had
     exact ⟨by show g ≠ w6.heap.size; omega, by rw [World.size_alloc]; show g < _; omega⟩
 · obtain ⟨cur, fz, h⟩ := own_ob HO.out had
   exact ⟨cur, fz, ((below_new w6 _).block _ (Array.getElem?_eq_some_iff.1 h).1).trans h⟩
 · rcases own_at HO.out with h | ⟨g, h, h1, h2⟩
   · rw [h] at had; cases had
   · rw [h] at had; cases had
     exact h1
structure FX where
 a : Option Addr
 n : Nat
 c : Nat
 k : ByteArray
def encFX (x : FX) : Array Value := #[.slice x.a x.n x.c, .string x.k]
def FrX (l : List ByteArray) (N : Nat) (pre : List FX) (x : FX) (W : World) : Prop :=
 pre.length < l.length ∧ (∀ h : pre.length < l.length, x.k = l[pre.length]) ∧ x.n = pre.length ∧ ∃ B, N ≤ B ∧ W.ownsRow B 9 1 (.slice x.a x.n x.c) x.n (txV (l.take pre.length)) ∧ x.n ≤ x.c
theorem own_obj {w : World} {base size n : Nat} {e : TypeId} {v : Value} {xs : List Value} (h : w.ownsRow base e size v n xs) {k : Nat} (hk : v.ownBlock = some k) : ∃ o : Obj, w.heap[k]? = some o ∧ o.isCells = true := by
 rcases h.2 with ⟨rfl, _⟩ | ⟨g, cap', cur, rfl, h1, h2, _⟩
 · cases hk
 · obtain rfl : g = k := by simpa [Value.ownBlock] using hk
   exact ⟨_, h2, rfl⟩
theorem FrX_own (l : List ByteArray) (N B : Nat) (pre : List FX) : OwnFrom B (FrX l N pre) := by
 rintro x A A' row ⟨h1, h2, h3, B', hB, ho, hc⟩ hg hr
 refine ⟨h1, h2, h3, B', hB, own_grown ho hg fun k hk e => ?_, hc⟩
 obtain ⟨o, e1, e2⟩ := own_obj ho hk
 obtain ⟨_, o', e3, e4⟩ := hr k e
 rw [e1] at e3
 cases e3
 rw [e2] at e4
 cases e4
set_option maxRecDepth 100000 in
set_option maxHeartbeats 2000000 in
theorem fronts1_iter (nn : Nat) (hn1 : 1 ≤ nn) (l : List ByteArray) (z : Nat) (ar : Option Addr) (n cr : Nat) (w : World) (hF : FrAt w l z ar n cr) (hl : n ≤ 1000000) (N : Nat) (S : Nat → Prop) (hN : N ≤ w.heap.size) (hSN : ∀ k, S k → k < w.heap.size) (hz : S z) (hr : ∀ ad, ar = some ad → S ad.block) :
 Iter2 nn Tryd.prog 32 #[.pointer (some ⟨z, 0, none⟩)] encFX (KeepU S) (FrX l N) (fun _ xs A B => xs.length = l.length ∧ A = B) (fun _ => True) w := by
 intro ll J Jx W hW _ hJo _ hY h0
 have hJ : ∀ pre A B, J pre A → Below A.heap.size A B → J pre B := fun pre A B h hb => ownFrom_to hJo h hb
 have HF := Lib.hid hF
 have HN := Lib.hid hF.len
 have HC := Lib.hid hF.cap
 have ST := Lib.hid sxT
 have HT : Hid (KeepU S w W) := Lib.hid (KeepU.below hW hSN)
 have c0 : W.cell? ⟨z, 0, none⟩ = some (.slice ar n cr) := HT.out.cell (p := ⟨z, 0, none⟩) hz (cell_of_one hF.box)
 clear hF
 refine callsIn_of_wp Tryd.func32 rfl trivial ?_ rfl
 simp only [Tryd.ntmps32, List.size_toArray, List.length_cons, List.length_nil, Nat.reduceAdd, Nat.reduceSub, Array.replicate_succ, Array.replicate_zero, List.push_toArray, List.append_toArray, List.nil_append, List.cons_append]
 gi_wp2
 clear c0
 gi_loopw [7] (fun i wr => ∃ (pre : List FX) (k : Nat), i = .int .i64 (k : Int) ∧ k = pre.length ∧ k ≤ n ∧ J pre wr ∧ Hid (KeepU S w wr)) (fun i _ => n - (intOf i).toNat)
 case atStart => exact ⟨[], 0, rfl, rfl, Nat.zero_le _, h0, HT⟩
 case round =>
  obtain ⟨pre, k, rfl, hkp0, hkn, hJs, HK⟩ := hrel
  have hkp := Lib.hid hkp0
  clear hkp0
  by_cases hlt : k < n
  · have hk1 : k < l.length := by have := HN.out; omega
    have hki : (k : Int) < (n : Int) := by omega
    have c1 : wr.cell? ⟨z, 0, none⟩ = some (.slice ar n cr) := HK.out.cell (p := ⟨z, 0, none⟩) hz (cell_of_one HF.out.box)
    have RW := Lib.hid (HK.out.cells hr HF.out.row)
    obtain ⟨ba, oa, rfl, p0⟩ := tx_get RW.out k hk1
    have SRC : Hid (Src Tryd.prog 1 22 (.slice (some ⟨ba, oa, none⟩) k cr) k (txV (l.take k)) (wr.alloc (.cells #[] 9))) := Lib.hid (by
     have h := (RW.out.below (below_new wr (.cells #[] 9)) rfl).take k
     have e : (txV l).take k = txV (l.take k) := by unfold txV; rw [List.map_take]
     rw [e] at h
     exact h.srcN (by rw [txV_len, List.length_take]; omega) (txV_one _) Tryd.underlying22 cr (by decide))
    have hsl : ∀ W, (Instr.slice 22 (.slice (some ⟨ba, oa, none⟩) n cr) none (some (.int .i64 (k : Int))) none).run Tryd.prog W = .ok (.slice (some ⟨ba, oa, none⟩) k cr) W := fun W => run_upto W 22 9 Tryd.underlying22 1 (fun w => by kernel_rfl) _ HF.out.form n cr k _ rfl (by have := HC.out; omega)
    have HX0 : Hid (∀ a6 c6 w6, w6.ownsRow wr.heap.size 9 1 (.slice a6 k c6) k (txV (l.take k)) → k ≤ c6 → FrX l N pre ⟨a6, k, c6, l[k]⟩ w6) := Lib.hid (fun a6 c6 w6 ho hc => ⟨by rw [← hkp.out]; exact hk1, fun h => by have := hkp.out; subst this; rfl, hkp.out, wr.heap.size, Nat.le_trans hN HK.out.size, by rw [← hkp.out]; exact ho, hc⟩)
    have c2 : (wr.alloc (.cells #[] 9)).cell? ⟨z, 0, none⟩ = some (.slice (some ⟨ba, oa, none⟩) n cr) := ((below_new wr _).cell (p := ⟨z, 0, none⟩) (block_lt_of_cell c1)).trans c1
    generalize l[k] = x at *
    gi_wp2_with (gi_at_builtin; go_must (refine wpListIn_app rfl _ _ 22 22 rfl wr.heap.size 9 _ 1 16 ST.out (.slice (some ⟨wr.heap.size, 0, none⟩) 0 0) 0 [] rfl (own_new wr wr.heap.size 9 [] (Nat.le_refl _) (Nat.zero_le _)) _ k (txV (l.take k)) rfl SRC.out (by omega) (by omega) (by simp) ?_); go_must (intro v6 w6 hown _ hbel _); go_must (rw [Nat.zero_add, List.nil_append] at hown); go_must (obtain ⟨a6, c6, rfl, hnc, _⟩ := own_slice hown); go_must (have HB6 := Lib.hid ((below_new wr (.cells #[] 9)).trans hbel)); go_must (obtain ⟨fn, tmps, assign, body', hyy, hRR⟩ := hY pre ⟨a6, k, c6, x⟩ w6 (hJ _ _ _ hJs HB6.out) (HX0.out a6 c6 w6 hown hnc)); go_must (simp only [encFX] at hyy); clear hown hbel)
    have HSW : Hid (∀ k, S k → k < wr.heap.size) := Lib.hid (fun k hk => Nat.lt_of_lt_of_le (hSN k hk) HK.out.size)
    refine hRR.mono ?_
    rintro e W' (⟨rfl, hJ', hk'⟩ | ⟨rfl, hJx', _⟩)
    · have HK' := Lib.hid (HK.out.trans ((KeepU.below HB6.out HSW.out).trans hk'))
      have HJ' := Lib.hid hJ'
      clear hk' hJ' hJs
      gi_wp2
      refine ⟨⟨pre ++ [⟨a6, k, c6, x⟩], k + 1, by go_num, by rw [List.length_append, ← hkp.out]; rfl, by omega, HJ'.out, HK'⟩, by simp [intOf]; omega⟩
    · have HJx := Lib.hid hJx'
      clear hJx' hJs
      gi_wp2
      try rw [Exit.noGoto_ret]
      refine bodyPost_ret (results_none rfl _ _ _) rfl ?_
      exact ⟨⟨_, rfl⟩, .inr ⟨_, trivial, HJx.out⟩⟩
  · obtain rfl : k = n := by omega
    have hki : ¬ (k : Int) < (k : Int) := by omega
    gi_wp2
    go_end0
    exact ⟨⟨_, rfl⟩, .inl ⟨pre, hJs, by rw [← hkp.out]; exact HN.out⟩⟩
end Go.Proofs.YtkjchoamdibolaaDoor
namespace Go.Proofs.YtkjchoamdibolaaDoor
open Go.RowKit Ku St
def plainB (b : Nat) : Bool := decide (33 ≤ b) && (decide (b ≤ 126) && (decide (b ≠ 37) && decide (b ≠ 59)))
theorem key_plain (b : Nat) (w : World) : Calls Tryd.prog 39 #[.int .u8 (b : Int)] w fun e w' => e = .returned (.bool (plainB b)) ∧ w = w' := by
 obtain ⟨res, hr⟩ : ∃ r, plainB b = r := ⟨_, rfl⟩
 have R := Lib.hid hr
 rw [hr]
 clear hr
 go_enter Tryd.func39, Tryd.ntmps39
 by_cases h1 : 33 ≤ b
 · have h1i : (33 : Int) ≤ (b : Int) := by omega
   by_cases h2 : b ≤ 126
   · have h2i : (b : Int) ≤ 126 := by omega
     by_cases h3 : b = 37
     · subst h3
       obtain rfl : false = res := by rw [← R.out]; rfl
       go_wp2_with fail
       go_ret
       exact ⟨rfl, rfl⟩
     · have h3i : ((b : Int) == 37) = false := beq_eq_false_iff_ne.2 (by omega)
       by_cases h4 : b = 59
       · subst h4
         obtain rfl : false = res := by rw [← R.out]; rfl
         go_wp2_with fail
         go_ret
         exact ⟨rfl, rfl⟩
       · have h4i : ((b : Int) == 59) = false := beq_eq_false_iff_ne.2 (by omega)
         obtain rfl : true = res := by rw [← R.out]; unfold plainB; rw [decide_eq_true h1, decide_eq_true h2, decide_eq_true h3, decide_eq_true h4]; rfl
         have h3k : ((b : Int) != 37) = true := bne_iff_ne.2 (by omega)
         have h4k : ((b : Int) != 59) = true := bne_iff_ne.2 (by omega)
         have h3j : ¬ (b : Int) = 37 := by omega
         have h4j : ¬ (b : Int) = 59 := by omega
         clear h3 h4
         go_wp2_with fail
         go_ret
         exact ⟨rfl, rfl⟩
   · have h2i : ¬ (b : Int) ≤ 126 := by omega
     obtain rfl : false = res := by rw [← R.out]; unfold plainB; rw [decide_eq_false h2]; simp
     go_wp2_with fail
     go_ret
     exact ⟨rfl, rfl⟩
 · have h1i : ¬ (33 : Int) ≤ (b : Int) := by omega
   obtain rfl : false = res := by rw [← R.out]; unfold plainB; rw [decide_eq_false h1]; rfl
   go_wp2_with fail
   go_ret
   exact ⟨rfl, rfl⟩
theorem key_nibble (b : Nat) (hb : 48 ≤ b) (hb2 : b ≤ 57) (w : World) : Calls Tryd.prog 40 #[.int .u8 (b : Int)] w fun e w' => e = .returned (.tuple #[.int .u8 ((b : Int) - 48), .bool true]) ∧ w = w' := by
 have h1i : (48 : Int) ≤ (b : Int) := by omega
 have h2i : (b : Int) ≤ 57 := by omega
 have hw : IntKind.u8.wrap ((b : Int) - 48) = (b : Int) - 48 := by simp [IntKind.wrap, IntKind.bits, IntKind.signed]; omega
 go_enter Tryd.func40, Tryd.ntmps40
 go_wp2_with fail
 go_ret2
 exact ⟨rfl, rfl⟩
theorem pl (c : Nat) (v : Bool) (h : plainB c = v) (x : Int) (hx : x = (c : Int)) (w : World) : Calls Tryd.prog 39 #[.int .u8 x] w fun e w' => e = .returned (.bool v) ∧ w = w' := by
 rw [hx, ← h]
 exact key_plain c w
theorem nb (c : Nat) (x y : Int) (hx : x = (c : Int)) (h1 : 48 ≤ c) (h2 : c ≤ 57) (hy : y = x - 48) (w : World) : Calls Tryd.prog 40 #[.int .u8 x] w fun e w' => e = .returned (.tuple #[.int .u8 y, .bool true]) ∧ w = w' := by
 rw [hy, hx]
 exact key_nibble c h1 h2 w
theorem u8T : ElemT Tryd.prog 51 5 (.int .u8 0) 1 1 := ElemT.mk Tryd.underlying51 (by kernel_rfl) (by simp [Value.cells])
def uwP : List Nat := [0, 1, 4, 5, 8]
def uwB : List (List UInt8) := [[], [97], [97, 32], [97, 32, 98], [97, 32, 98, 37]]
set_option maxRecDepth 100000 in
set_option maxHeartbeats 1000000 in
theorem key_Unword1 (w : World) : Calls Tryd.prog 25 #[.string ⟨#[97, 37, 50, 48, 98, 37, 50, 53]⟩] w fun e w' => e = .returned (.tuple #[.string ⟨#[97, 32, 98, 37]⟩, .int .i64 0]) ∧ Below w.heap.size w w' := by
 have UT := Lib.hid u8T
 go_enter Tryd.func25, Tryd.ntmps25
 have IX : ∀ (i : Nat) (x : Int) (c : Nat), x = (i : Int) → i < 8 → ((⟨#[97, 37, 50, 48, 98, 37, 50, 53]⟩ : ByteArray).get! i).toNat = c → ∀ W, (Instr.index 9 (.string ⟨#[97, 37, 50, 48, 98, 37, 50, 53]⟩) (.int .i64 x)).run Tryd.prog W = .ok (.int .u8 (c : Int)) W := fun i x c h1 h2 h3 W => by rw [← h3]; exact idx_str ⟨#[97, 37, 50, 48, 98, 37, 50, 53]⟩ i x h1 (show i < 8 from h2) W
 have I0 := IX 0 0 97 rfl (by omega) (by rfl)
 have I1 := IX 1 1 37 rfl (by omega) (by rfl)
 have I2 := IX 2 2 50 rfl (by omega) (by rfl)
 have I3 := IX 3 3 48 rfl (by omega) (by rfl)
 have I4 := IX 4 4 98 rfl (by omega) (by rfl)
 have I5 := IX 5 5 37 rfl (by omega) (by rfl)
 have I6 := IX 6 6 50 rfl (by omega) (by rfl)
 have I7 := IX 7 7 53 rfl (by omega) (by rfl)
 clear IX
 go_wp2_with fail
 go_loopw [4, 5] (fun bv iv wr => ∃ (j p : Nat) (l : List UInt8), j ≤ 4 ∧ uwP[j]? = some p ∧ uwB[j]? = some l ∧ iv = .int .i64 (p : Int) ∧ Hid (wr.ownsRow w.heap.size 5 1 bv l.length (bvs l)) ∧ Hid (Below w.heap.size w wr)) (fun _ iv _ => 8 - (intOf iv).toNat)
 case atStart => exact ⟨0, 0, [], by omega, rfl, rfl, rfl, Lib.hid ⟨rfl, Or.inl ⟨rfl, rfl⟩⟩, Lib.hid (Below.refl _ _)⟩
 case round =>
  obtain ⟨j, p, l, hj, hp, hl, rfl, HO, HB⟩ := hrel
  have HWS := Lib.hid HB.out.size
  match j, hj with
  | 0, _ =>
   cases hp
   cases hl
   rw [show ((0 : Nat) : Int) = 0 from rfl]
   go_wp2_with fail
   refine (pl 97 true rfl 97 rfl _).mono ?_
   rintro e _ ⟨rfl, rfl⟩
   go_wp2_with (at_builtin; go_must (refine wpList_appb rfl _ _ 51 51 rfl w.heap.size 5 UT.out _ [] rfl (HO.out.alloc _) _ [97] rfl (src_one Tryd.underlying51 _ 5 97 _ (by rfl)) (by simp) (by have := HWS.out; simp; omega) ?_); go_must (intro v6 w6 hown _ hbel _))
   have HO6 := Lib.hid hown
   have HB6 := Lib.hid ((HB.out.alloc HWS.out _).trans hbel)
   clear hown hbel
   go_wp2_with fail
   exact ⟨⟨1, 1, [97], by omega, rfl, rfl, rfl, HO6, HB6⟩, by simp [intOf]⟩
  | 1, _ =>
   cases hp
   cases hl
   rw [show ((1 : Nat) : Int) = 1 from rfl]
   go_wp2_with fail
   refine (pl 37 false rfl 37 rfl _).mono ?_
   rintro e _ ⟨rfl, rfl⟩
   go_wp2_with fail
   refine (nb 50 50 2 rfl (by omega) (by omega) rfl _).mono ?_
   rintro e _ ⟨rfl, rfl⟩
   go_wp2_with fail
   refine (nb 48 48 0 rfl (by omega) (by omega) rfl _).mono ?_
   rintro e _ ⟨rfl, rfl⟩
   have hbo : bits .or .u8 32 0 = 32 := by decide
   go_wp2_with fail
   refine (pl 32 false rfl 32 rfl _).mono ?_
   rintro e _ ⟨rfl, rfl⟩
   go_wp2_with (at_builtin; go_must (refine wpList_appb rfl _ _ 51 51 rfl w.heap.size 5 UT.out _ [97] rfl (HO.out.alloc _) _ [32] rfl (src_one Tryd.underlying51 _ 5 32 _ (by rfl)) (by simp) (by have := HWS.out; simp; omega) ?_); go_must (intro v6 w6 hown _ hbel _))
   have HO6 := Lib.hid hown
   have HB6 := Lib.hid ((HB.out.alloc HWS.out _).trans hbel)
   clear hown hbel
   go_wp2_with fail
   exact ⟨⟨2, 4, [97,32], by omega, rfl, rfl, rfl, HO6, HB6⟩, by simp [intOf]⟩
  | 2, _ =>
   cases hp
   cases hl
   rw [show ((4 : Nat) : Int) = 4 from rfl]
   go_wp2_with fail
   refine (pl 98 true rfl 98 rfl _).mono ?_
   rintro e _ ⟨rfl, rfl⟩
   go_wp2_with (at_builtin; go_must (refine wpList_appb rfl _ _ 51 51 rfl w.heap.size 5 UT.out _ [97,32] rfl (HO.out.alloc _) _ [98] rfl (src_one Tryd.underlying51 _ 5 98 _ (by rfl)) (by simp) (by have := HWS.out; simp; omega) ?_); go_must (intro v6 w6 hown _ hbel _))
   have HO6 := Lib.hid hown
   have HB6 := Lib.hid ((HB.out.alloc HWS.out _).trans hbel)
   clear hown hbel
   go_wp2_with fail
   exact ⟨⟨3, 5, [97,32,98], by omega, rfl, rfl, rfl, HO6, HB6⟩, by simp [intOf]⟩
  | 3, _ =>
   cases hp
   cases hl
   rw [show ((5 : Nat) : Int) = 5 from rfl]
   go_wp2_with fail
   refine (pl 37 false rfl 37 rfl _).mono ?_
   rintro e _ ⟨rfl, rfl⟩
   go_wp2_with fail
   refine (nb 50 50 2 rfl (by omega) (by omega) rfl _).mono ?_
   rintro e _ ⟨rfl, rfl⟩
   go_wp2_with fail
   refine (nb 53 53 5 rfl (by omega) (by omega) rfl _).mono ?_
   rintro e _ ⟨rfl, rfl⟩
   have hbo : bits .or .u8 32 5 = 37 := by decide
   go_wp2_with fail
   refine (pl 37 false rfl 37 rfl _).mono ?_
   rintro e _ ⟨rfl, rfl⟩
   go_wp2_with (at_builtin; go_must (refine wpList_appb rfl _ _ 51 51 rfl w.heap.size 5 UT.out _ [97,32,98] rfl (HO.out.alloc _) _ [37] rfl (src_one Tryd.underlying51 _ 5 37 _ (by rfl)) (by simp) (by have := HWS.out; simp; omega) ?_); go_must (intro v6 w6 hown _ hbel _))
   have HO6 := Lib.hid hown
   have HB6 := Lib.hid ((HB.out.alloc HWS.out _).trans hbel)
   clear hown hbel
   go_wp2_with fail
   exact ⟨⟨4, 8, [97,32,98,37], by omega, rfl, rfl, rfl, HO6, HB6⟩, by simp [intOf]⟩
  | 4, _ =>
   cases hp
   cases hl
   rw [show ((8 : Nat) : Int) = 8 from rfl]
   obtain ⟨a4, c4, hv, _, _⟩ := own_slice HO.out
   subst hv
   have hcv : (convert 51 9 (.slice a4 4 c4)).run Tryd.prog wr = .ok (.string ⟨#[97, 32, 98, 37]⟩) wr := conv_bytes (P := Tryd.prog) (l := [97, 32, 98, 37]) (own_bytes HO.out) 51 5 9 Tryd.underlying51 Tryd.underlying5 Tryd.underlying9 4 c4 rfl
   go_wp2_with fail
   go_ret2
   exact ⟨rfl, HB.out⟩
set_option maxRecDepth 100000 in
set_option maxHeartbeats 1000000 in
theorem key_Unword2 (w : World) : Calls Tryd.prog 25 #[.string ⟨#[37, 54, 49]⟩] w fun e w' => e = .returned (.tuple #[.string ⟨#[]⟩, .int .i64 4]) ∧ Below w.heap.size w w' := by
 go_enter Tryd.func25, Tryd.ntmps25
 go_wp2_with fail
 go_loopw [4, 5] (fun bv iv wr => bv = .slice none 0 0 ∧ iv = .int .i64 0 ∧ wr = w) (fun _ _ _ => 0)
 case atStart => exact ⟨rfl, rfl, rfl⟩
 case round =>
  obtain ⟨rfl, rfl, rfl⟩ := hrel
  go_wp2_with fail
  refine (pl 37 false rfl 37 rfl _).mono ?_
  rintro e _ ⟨rfl, rfl⟩
  go_wp2_with fail
  refine (nb 54 54 6 rfl (by omega) (by omega) rfl _).mono ?_
  rintro e _ ⟨rfl, rfl⟩
  go_wp2_with fail
  refine (nb 49 49 1 rfl (by omega) (by omega) rfl _).mono ?_
  rintro e _ ⟨rfl, rfl⟩
  have hbo : bits .or .u8 96 1 = 97 := by decide
  go_wp2_with fail
  refine (pl 97 true rfl 97 rfl _).mono ?_
  rintro e _ ⟨rfl, rfl⟩
  go_wp2_with fail
  go_ret2
  exact ⟨rfl, Below.refl _ _⟩
end Go.Proofs.YtkjchoamdibolaaDoor
namespace Go.Proofs.YtkjchoamdibolaaDoor
open Go.RowKit Ku St
theorem made_cells {w w8 : World} {vs : List Value} {t : TypeId} (hw : w8 = w.alloc (.cells vs.toArray t)) : CellsAt w8 (some ⟨w.heap.size, 0, none⟩) vs := by rw [hw]; exact CellsAt.new _ _ _ vs
def wdB : List (List UInt8) := [[], [97], [97, 37, 50, 48], [97, 37, 50, 48, 98], [97, 37, 50, 48, 98, 37, 50, 53]]
set_option maxRecDepth 100000 in
set_option maxHeartbeats 1000000 in
theorem key_Word1 (w : World) : Calls Tryd.prog 27 #[.string ⟨#[97, 32, 98, 37]⟩] w fun e w' => e = .returned (.string ⟨#[97, 37, 50, 48, 98, 37, 50, 53]⟩) ∧ Below w.heap.size w w' := by
 have UT := Lib.hid u8T
 have CV := fun W => conv_to_bytes (P := Tryd.prog) W 9 51 5 ⟨#[97, 32, 98, 37]⟩ Tryd.underlying9 Tryd.underlying51 Tryd.underlying5
 have HCV := Lib.hid CV
 clear CV
 go_enter Tryd.func27, Tryd.ntmps27
 go_upto_region 4 with (at_make; refine wpList_mk0 rfl _ _ 51 rfl 5 (.int .u8 0) 1 1 UT.out _ _ _ 4 rfl rfl rfl (by omega) (by omega) ?_; intro w0 hown0 D0)
 obtain ⟨cap, w1, hcv, hby, hb1, hz1⟩ := HCV.out w0
 have O1 := Lib.hid (own_later hown0 hb1 (Nat.le_refl _))
 have HB1 := Lib.hid (D0.trans (hb1.mono D0.size))
 have ZN : Hid (w.heap.size < w0.heap.size) := Lib.hid (hown0.lt w.heap.size rfl).2
 have HY := Lib.hid hby
 have Z1 : Hid (w0.heap.size < w1.heap.size) := Lib.hid (by rw [hz1]; omega)
 obtain ⟨z, hz⟩ : ∃ z, w0.heap.size = z := ⟨_, rfl⟩
 rw [hz] at hcv HY Z1 ZN
 clear hown0 D0 hby hb1 hz1
 go_wp2_with fail
 clear hcv
 go_loopw [3, 14] (fun ov iv wr => ∃ (j : Nat) (l : List UInt8), j ≤ 4 ∧ wdB[j]? = some l ∧ iv = .int .i64 (j : Int) ∧ Hid (wr.ownsRow w.heap.size 5 1 ov l.length (bvs l)) ∧ Hid (∀ b, ov.ownBlock = some b → b ≠ z) ∧ Hid (wr.heap[z]? = w1.heap[z]?) ∧ Hid (Below w.heap.size w wr)) (fun _ iv _ => 4 - (intOf iv).toNat)
 case atStart => exact ⟨0, [], by omega, rfl, rfl, O1, Lib.hid (fun b hb => by have := ZN.out; simp [Value.ownBlock] at hb; omega), Lib.hid rfl, HB1⟩
 case round =>
  obtain ⟨j, l, hj, hl, rfl, HO, HD, HZ, HB⟩ := hrel
  have HWS := Lib.hid HB.out.size
  have ZR : Hid (z < wr.heap.size) := Lib.hid (by
   have h1 : w1.heap[z]? = some w1.heap[z] := Array.getElem?_eq_getElem Z1.out
   have h2 := HZ.out
   rw [h1] at h2
   exact (Array.getElem?_eq_some_iff.1 h2).1)
  have CELL : Hid (∀ i (h : i < 4), wr.cell? ⟨z, i, none⟩ = some (.int .u8 ((([97, 32, 98, 37] : List UInt8)[i]'h).toNat : Int))) := Lib.hid (fun i h => by
   obtain ⟨b, off, e, c⟩ := HY.out i h
   cases e
   unfold World.cell? at c ⊢
   rw [show wr.heap[z]? = w1.heap[z]? from HZ.out]
   rw [Nat.zero_add] at c
   exact c)
  match j, hj with
  | 0, _ =>
   cases hl
   rw [show ((0 : Nat) : Int) = 0 from rfl]
   have p0 : wr.cell? ⟨z, 0, none⟩ = some (.int .u8 97) := CELL.out 0 (by omega)
   go_wp2_with fail
   refine (pl 97 true rfl 97 rfl _).mono ?_
   rintro e _ ⟨rfl, rfl⟩
   go_wp2_with (at_builtin; go_must (refine wpList_appb rfl _ _ 51 51 rfl w.heap.size 5 UT.out _ [] rfl (HO.out.alloc _) _ [97] rfl (src_one Tryd.underlying51 _ 5 97 _ (by rfl)) (by simp) (by have := HWS.out; simp; omega) ?_); go_must (intro v6 w6 hown hgr hbel hor))
   have HO6 := Lib.hid hown
   have HB6 := Lib.hid ((HB.out.alloc HWS.out _).trans hbel)
   have HD6 : Hid (∀ b, v6.ownBlock = some b → b ≠ z) := Lib.hid (fun b hb => by
    rcases hor with h | h
    · exact HD.out b (h.symm.trans hb)
    · rw [h] at hb
      have h2 : (wr.alloc (.cells #[.int .u8 97] 5)).heap.size = b := by simpa using hb
      have := ZR.out
      rw [World.size_alloc] at h2
      omega)
   have HZ6 : Hid (w6.heap[z]? = w1.heap[z]?) := Lib.hid (by
    rw [hgr.block z (by rw [World.size_alloc]; have := ZR.out; omega) (fun e => HD.out z e.symm rfl), ← HZ.out]
    exact (below_new wr _).block z ZR.out)
   clear hown hbel hgr hor
   go_wp2_with fail
   exact ⟨⟨1, [97], by omega, rfl, rfl, HO6, HD6, HZ6, HB6⟩, by simp [intOf]⟩
  | 1, _ =>
   cases hl
   rw [show ((1 : Nat) : Int) = 1 from rfl]
   have p0 : wr.cell? ⟨z, 1, none⟩ = some (.int .u8 32) := CELL.out 1 (by omega)
   go_wp2_with fail
   refine (pl 32 false rfl 32 rfl _).mono ?_
   rintro e _ ⟨rfl, rfl⟩
   go_upto_region 9 with (fail)
   have ZD : Hid (wr.drew.heap[z]? = w1.heap[z]?) := HZ
   have OD : Hid (World.ownsRow wr.drew w.heap.size 5 1 u3 ([97] : List UInt8).length (bvs [97])) := HO
   have ZRD : Hid (z < wr.drew.heap.size) := ZR
   have HC : Hid (Chain [wr] wr) := Lib.hid (Chain.one wr)
   have HZB := HWS
   refine wp_region_noPanic ?_
   refine wp_region_held_drew (S := fun w' => Below w.heap.size wr w') (by kernel_rfl) (Below.refl _ _).drew (fun hS => ?_)
   refine wpAnyH_take (i := 0) (oi := ⟨some 24, _, _, _, _, _⟩) (v := ?_) rfl (by kernel_rfl) (by kernel_rfl) (by kernel_rfl) (fun _ _ _ h => h) (Or.inl ⟨by rfl, ?_⟩) hS ?_
   rotate_left 1
   · intro w' hB; have hbb : bits .and .u8 32 15 = 0 := (by decide); (go_simp <;> with_reducible rfl)
   try simp only [Act.put, List.setIfInBounds_toArray, List.set_cons_zero, List.set_cons_succ]
   refine wpAnyH_take (i := 1) (oi := ⟨some 25, _, _, _, _, _⟩) (v := ?_) rfl (by kernel_rfl) (by kernel_rfl) (by kernel_rfl) (fun _ _ _ h => h) (Or.inl ⟨by rfl, ?_⟩) hS ?_
   rotate_left 1
   · intro w' hB; have hbb : bits .and .u8 32 15 = 0 := (by decide); (go_simp <;> with_reducible rfl)
   try simp only [Act.put, List.setIfInBounds_toArray, List.set_cons_zero, List.set_cons_succ]
   refine wpAnyH_take (i := 2) (oi := ⟨some 26, _, _, _, _, _⟩) (v := ?_) rfl (by kernel_rfl) (by kernel_rfl) (by kernel_rfl) (fun _ _ _ h => h) (Or.inl ⟨by rfl, ?_⟩) hS ?_
   rotate_left 1
   · intro w' hB; have hbb : bits .and .u8 32 15 = 0 := (by decide); (go_simp <;> with_reducible rfl)
   try simp only [Act.put, List.setIfInBounds_toArray, List.set_cons_zero, List.set_cons_succ]
   refine wpAnyH_take (i := 3) (oi := ⟨some 27, _, _, _, _, _⟩) (v := ?_) rfl (by kernel_rfl) (by kernel_rfl) (by kernel_rfl) (fun _ _ _ h => h) (Or.inl ⟨by rfl, ?_⟩) hS ?_
   rotate_left 1
   · intro w' hB; have hbb : bits .and .u8 32 15 = 0 := (by decide); (go_simp <;> with_reducible rfl)
   try simp only [Act.put, List.setIfInBounds_toArray, List.set_cons_zero, List.set_cons_succ]
   refine wpAnyH_take (i := 4) (oi := ⟨some 28, _, _, _, _, _⟩) (v := ?_) rfl (by kernel_rfl) (by kernel_rfl) (by kernel_rfl) (fun _ _ _ h => h) (Or.inl ⟨by rfl, ?_⟩) hS ?_
   rotate_left 1
   · intro w' hB; have hbb : bits .and .u8 32 15 = 0 := (by decide); (go_simp <;> with_reducible rfl)
   try simp only [Act.put, List.setIfInBounds_toArray, List.set_cons_zero, List.set_cons_succ]
   refine wpAnyH_take (i := 5) (oi := ⟨some 29, _, _, _, _, _⟩) (v := ?_) rfl (by kernel_rfl) (by kernel_rfl) (by kernel_rfl) (fun _ _ _ h => h) (Or.inl ⟨by rfl, ?_⟩) hS ?_
   rotate_left 1
   · intro w' hB; have hbb : bits .and .u8 32 15 = 0 := (by decide); (go_simp <;> with_reducible rfl)
   try simp only [Act.put, List.setIfInBounds_toArray, List.set_cons_zero, List.set_cons_succ]
   refine wpAnyH_take (i := 6) (oi := ⟨some 30, _, _, _, _, _⟩) (v := ?_) rfl (by kernel_rfl) (by kernel_rfl) (by kernel_rfl) (fun _ _ _ h => h) (Or.inl ⟨by rfl, ?_⟩) hS ?_
   rotate_left 1
   · intro w' hB; have hbb : bits .and .u8 32 15 = 0 := (by decide); (go_simp <;> with_reducible rfl)
   try simp only [Act.put, List.setIfInBounds_toArray, List.set_cons_zero, List.set_cons_succ]
   refine wpAnyH_ready (rs := [7]) (by kernel_rfl) (by simp) (AllReadyH.cons (o := ⟨some 31, _, _, _, _, _⟩) rfl (fun K hK => ?_) AllReadyH.nil)
   go_simp
   refine hK.out _ _ (hS.alloc (Nat.le_trans HZB.out hS.size) _) (fun _ => ?_)
   clear hK K
   refine wpAnyH_madeK hS (Nat.le_trans HZB.out hS.size) ?_
   have hS0 := hS
   clear hS
   rintro w8 hw hS
   have H8 := Lib.hid (made_cells (vs := [.int .u8 37, .int .u8 50, .int .u8 48]) hw)
   have O8 := Lib.hid (show World.ownsRow w8 w.heap.size 5 1 u3 ([97] : List UInt8).length (bvs [97]) from by rw [hw]; exact OD.out.alloc _)
   have Z8 : Hid (w8.heap[z]? = w1.heap[z]? ∧ z < w8.heap.size) := Lib.hid (by rw [hw]; exact ⟨((below_new wr.drew _).block z ZRD.out).trans ZD.out, Nat.lt_of_lt_of_le ZRD.out (by rw [World.size_alloc]; omega)⟩)
   clear hw hS0
   try simp only [Act.put, List.setIfInBounds_toArray, List.set_cons_zero, List.set_cons_succ]
   refine wpAnyH_ready (rs := [8]) (by kernel_rfl) (by simp) (AllReadyH.cons (o := ⟨some 32, _, _, _, _, _⟩) rfl (fun K hK => ?_) AllReadyH.nil)
   refine step_appb rfl _ _ _ _ rfl w.heap.size 5 UT.out u3 [97] rfl O8.out _ [37, 50, 48] rfl (H8.out.srcN rfl (by simp [Value.oneCell']) Tryd.underlying51 3 (by decide)) (by simp) (by have h1 := hS.size; have h2 := HWS.out; omega) ?_
   intro v9 w9 hown hgr hb hor
   refine hK.out _ _ (hS.trans hb) (fun _ => ?_)
   clear hK K
   replace hS := hS.trans hb
   have O9 := Lib.hid hown
   have D9 : Hid (∀ b, v9.ownBlock = some b → b ≠ z) := Lib.hid (fun b hb9 => by rcases hor with h | h; exact HD.out b (h.symm.trans hb9); rw [h] at hb9; have h2 := Option.some.inj hb9; have h3 := Z8.out.2; omega)
   have Z9 : Hid (w9.heap[z]? = w1.heap[z]?) := Lib.hid ((hgr.block z Z8.out.2 (fun e => HD.out z e.symm rfl)).trans Z8.out.1)
   clear hown
   clear hb hgr hor
   try simp only [Act.put, List.setIfInBounds_toArray, List.set_cons_zero, List.set_cons_succ]
   refine wpAnyH_take (i := 9) (oi := ⟨some 3, _, _, _, _, _⟩) (v := ?_) rfl (by kernel_rfl) (by kernel_rfl) (by kernel_rfl) (fun _ _ _ h => h) (Or.inl ⟨by rfl, ?_⟩) hS ?_
   rotate_left 1
   · intro w' hB; have hbb : bits .and .u8 32 15 = 0 := (by decide); (go_simp <;> with_reducible rfl)
   try simp only [Act.put, List.setIfInBounds_toArray, List.set_cons_zero, List.set_cons_succ]
   refine wpAnyH_done (by kernel_rfl) (NoPanic.normal ?_) _
   go_wp2_with fail
   exact ⟨⟨2, [97,37,50,48], by omega, rfl, rfl, O9, D9, Z9, Lib.hid (HB.out.trans hS)⟩, by simp [intOf]⟩
  | 2, _ =>
   cases hl
   rw [show ((2 : Nat) : Int) = 2 from rfl]
   have p0 : wr.cell? ⟨z, 2, none⟩ = some (.int .u8 98) := CELL.out 2 (by omega)
   go_wp2_with fail
   refine (pl 98 true rfl 98 rfl _).mono ?_
   rintro e _ ⟨rfl, rfl⟩
   go_wp2_with (at_builtin; go_must (refine wpList_appb rfl _ _ 51 51 rfl w.heap.size 5 UT.out _ [97,37,50,48] rfl (HO.out.alloc _) _ [98] rfl (src_one Tryd.underlying51 _ 5 98 _ (by rfl)) (by simp) (by have := HWS.out; simp; omega) ?_); go_must (intro v6 w6 hown hgr hbel hor))
   have HO6 := Lib.hid hown
   have HB6 := Lib.hid ((HB.out.alloc HWS.out _).trans hbel)
   have HD6 : Hid (∀ b, v6.ownBlock = some b → b ≠ z) := Lib.hid (fun b hb => by
    rcases hor with h | h
    · exact HD.out b (h.symm.trans hb)
    · rw [h] at hb
      have h2 : (wr.alloc (.cells #[.int .u8 98] 5)).heap.size = b := by simpa using hb
      have := ZR.out
      rw [World.size_alloc] at h2
      omega)
   have HZ6 : Hid (w6.heap[z]? = w1.heap[z]?) := Lib.hid (by
    rw [hgr.block z (by rw [World.size_alloc]; have := ZR.out; omega) (fun e => HD.out z e.symm rfl), ← HZ.out]
    exact (below_new wr _).block z ZR.out)
   clear hown hbel hgr hor
   go_wp2_with fail
   exact ⟨⟨3, [97,37,50,48,98], by omega, rfl, rfl, HO6, HD6, HZ6, HB6⟩, by simp [intOf]⟩
  | 3, _ =>
   cases hl
   rw [show ((3 : Nat) : Int) = 3 from rfl]
   have p0 : wr.cell? ⟨z, 3, none⟩ = some (.int .u8 37) := CELL.out 3 (by omega)
   go_wp2_with fail
   refine (pl 37 false rfl 37 rfl _).mono ?_
   rintro e _ ⟨rfl, rfl⟩
   go_upto_region 9 with (fail)
   have ZD : Hid (wr.drew.heap[z]? = w1.heap[z]?) := HZ
   have OD : Hid (World.ownsRow wr.drew w.heap.size 5 1 u3 ([97,37,50,48,98] : List UInt8).length (bvs [97,37,50,48,98])) := HO
   have ZRD : Hid (z < wr.drew.heap.size) := ZR
   have HC : Hid (Chain [wr] wr) := Lib.hid (Chain.one wr)
   have HZB := HWS
   refine wp_region_noPanic ?_
   refine wp_region_held_drew (S := fun w' => Below w.heap.size wr w') (by kernel_rfl) (Below.refl _ _).drew (fun hS => ?_)
   refine wpAnyH_take (i := 0) (oi := ⟨some 24, _, _, _, _, _⟩) (v := ?_) rfl (by kernel_rfl) (by kernel_rfl) (by kernel_rfl) (fun _ _ _ h => h) (Or.inl ⟨by rfl, ?_⟩) hS ?_
   rotate_left 1
   · intro w' hB; have hbb : bits .and .u8 37 15 = 5 := (by decide); (go_simp <;> with_reducible rfl)
   try simp only [Act.put, List.setIfInBounds_toArray, List.set_cons_zero, List.set_cons_succ]
   refine wpAnyH_take (i := 1) (oi := ⟨some 25, _, _, _, _, _⟩) (v := ?_) rfl (by kernel_rfl) (by kernel_rfl) (by kernel_rfl) (fun _ _ _ h => h) (Or.inl ⟨by rfl, ?_⟩) hS ?_
   rotate_left 1
   · intro w' hB; have hbb : bits .and .u8 37 15 = 5 := (by decide); (go_simp <;> with_reducible rfl)
   try simp only [Act.put, List.setIfInBounds_toArray, List.set_cons_zero, List.set_cons_succ]
   refine wpAnyH_take (i := 2) (oi := ⟨some 26, _, _, _, _, _⟩) (v := ?_) rfl (by kernel_rfl) (by kernel_rfl) (by kernel_rfl) (fun _ _ _ h => h) (Or.inl ⟨by rfl, ?_⟩) hS ?_
   rotate_left 1
   · intro w' hB; have hbb : bits .and .u8 37 15 = 5 := (by decide); (go_simp <;> with_reducible rfl)
   try simp only [Act.put, List.setIfInBounds_toArray, List.set_cons_zero, List.set_cons_succ]
   refine wpAnyH_take (i := 3) (oi := ⟨some 27, _, _, _, _, _⟩) (v := ?_) rfl (by kernel_rfl) (by kernel_rfl) (by kernel_rfl) (fun _ _ _ h => h) (Or.inl ⟨by rfl, ?_⟩) hS ?_
   rotate_left 1
   · intro w' hB; have hbb : bits .and .u8 37 15 = 5 := (by decide); (go_simp <;> with_reducible rfl)
   try simp only [Act.put, List.setIfInBounds_toArray, List.set_cons_zero, List.set_cons_succ]
   refine wpAnyH_take (i := 4) (oi := ⟨some 28, _, _, _, _, _⟩) (v := ?_) rfl (by kernel_rfl) (by kernel_rfl) (by kernel_rfl) (fun _ _ _ h => h) (Or.inl ⟨by rfl, ?_⟩) hS ?_
   rotate_left 1
   · intro w' hB; have hbb : bits .and .u8 37 15 = 5 := (by decide); (go_simp <;> with_reducible rfl)
   try simp only [Act.put, List.setIfInBounds_toArray, List.set_cons_zero, List.set_cons_succ]
   refine wpAnyH_take (i := 5) (oi := ⟨some 29, _, _, _, _, _⟩) (v := ?_) rfl (by kernel_rfl) (by kernel_rfl) (by kernel_rfl) (fun _ _ _ h => h) (Or.inl ⟨by rfl, ?_⟩) hS ?_
   rotate_left 1
   · intro w' hB; have hbb : bits .and .u8 37 15 = 5 := (by decide); (go_simp <;> with_reducible rfl)
   try simp only [Act.put, List.setIfInBounds_toArray, List.set_cons_zero, List.set_cons_succ]
   refine wpAnyH_take (i := 6) (oi := ⟨some 30, _, _, _, _, _⟩) (v := ?_) rfl (by kernel_rfl) (by kernel_rfl) (by kernel_rfl) (fun _ _ _ h => h) (Or.inl ⟨by rfl, ?_⟩) hS ?_
   rotate_left 1
   · intro w' hB; have hbb : bits .and .u8 37 15 = 5 := (by decide); (go_simp <;> with_reducible rfl)
   try simp only [Act.put, List.setIfInBounds_toArray, List.set_cons_zero, List.set_cons_succ]
   refine wpAnyH_ready (rs := [7]) (by kernel_rfl) (by simp) (AllReadyH.cons (o := ⟨some 31, _, _, _, _, _⟩) rfl (fun K hK => ?_) AllReadyH.nil)
   go_simp
   refine hK.out _ _ (hS.alloc (Nat.le_trans HZB.out hS.size) _) (fun _ => ?_)
   clear hK K
   refine wpAnyH_madeK hS (Nat.le_trans HZB.out hS.size) ?_
   have hS0 := hS
   clear hS
   rintro w8 hw hS
   have H8 := Lib.hid (made_cells (vs := [.int .u8 37, .int .u8 50, .int .u8 53]) hw)
   have O8 := Lib.hid (show World.ownsRow w8 w.heap.size 5 1 u3 ([97,37,50,48,98] : List UInt8).length (bvs [97,37,50,48,98]) from by rw [hw]; exact OD.out.alloc _)
   have Z8 : Hid (w8.heap[z]? = w1.heap[z]? ∧ z < w8.heap.size) := Lib.hid (by rw [hw]; exact ⟨((below_new wr.drew _).block z ZRD.out).trans ZD.out, Nat.lt_of_lt_of_le ZRD.out (by rw [World.size_alloc]; omega)⟩)
   clear hw hS0
   try simp only [Act.put, List.setIfInBounds_toArray, List.set_cons_zero, List.set_cons_succ]
   refine wpAnyH_ready (rs := [8]) (by kernel_rfl) (by simp) (AllReadyH.cons (o := ⟨some 32, _, _, _, _, _⟩) rfl (fun K hK => ?_) AllReadyH.nil)
   refine step_appb rfl _ _ _ _ rfl w.heap.size 5 UT.out u3 [97,37,50,48,98] rfl O8.out _ [37, 50, 53] rfl (H8.out.srcN rfl (by simp [Value.oneCell']) Tryd.underlying51 3 (by decide)) (by simp) (by have h1 := hS.size; have h2 := HWS.out; omega) ?_
   intro v9 w9 hown hgr hb hor
   refine hK.out _ _ (hS.trans hb) (fun _ => ?_)
   clear hK K
   replace hS := hS.trans hb
   have O9 := Lib.hid hown
   have D9 : Hid (∀ b, v9.ownBlock = some b → b ≠ z) := Lib.hid (fun b hb9 => by rcases hor with h | h; exact HD.out b (h.symm.trans hb9); rw [h] at hb9; have h2 := Option.some.inj hb9; have h3 := Z8.out.2; omega)
   have Z9 : Hid (w9.heap[z]? = w1.heap[z]?) := Lib.hid ((hgr.block z Z8.out.2 (fun e => HD.out z e.symm rfl)).trans Z8.out.1)
   clear hown
   clear hb hgr hor
   try simp only [Act.put, List.setIfInBounds_toArray, List.set_cons_zero, List.set_cons_succ]
   refine wpAnyH_take (i := 9) (oi := ⟨some 3, _, _, _, _, _⟩) (v := ?_) rfl (by kernel_rfl) (by kernel_rfl) (by kernel_rfl) (fun _ _ _ h => h) (Or.inl ⟨by rfl, ?_⟩) hS ?_
   rotate_left 1
   · intro w' hB; have hbb : bits .and .u8 37 15 = 5 := (by decide); (go_simp <;> with_reducible rfl)
   try simp only [Act.put, List.setIfInBounds_toArray, List.set_cons_zero, List.set_cons_succ]
   refine wpAnyH_done (by kernel_rfl) (NoPanic.normal ?_) _
   go_wp2_with fail
   exact ⟨⟨4, [97,37,50,48,98,37,50,53], by omega, rfl, rfl, O9, D9, Z9, Lib.hid (HB.out.trans hS)⟩, by simp [intOf]⟩
  | 4, _ =>
   cases hl
   obtain ⟨a4, c4, hv, _, _⟩ := own_slice HO.out
   subst hv
   have hcv : (convert 51 9 (.slice a4 8 c4)).run Tryd.prog wr = .ok (.string ⟨#[97, 37, 50, 48, 98, 37, 50, 53]⟩) wr := conv_bytes (P := Tryd.prog) (l := [97, 37, 50, 48, 98, 37, 50, 53]) (own_bytes HO.out) 51 5 9 Tryd.underlying51 Tryd.underlying5 Tryd.underlying9 8 c4 rfl
   rw [show ((4 : Nat) : Int) = 4 from rfl]
   go_wp2_with fail
   go_ret
   exact ⟨rfl, HB.out⟩
end Go.Proofs.YtkjchoamdibolaaDoor
namespace Go.Proofs.YtkjchoamdibolaaDoor
open Go.RowKit
section
variable {P : Program} {t : TypeId} {ps rs : Array TypeId} {vd : Bool}
theorem eqIn_func (h : P.underlying t = some (.func ps rs vd)) (fn : Fn) (fi ca : Array Value) (w : World) (d : Nat) : (Op.equalIn (d + 1) t (.func fn fi ca) .nilFunc).run P w = .ok false w := by
 simp [Op.equalIn, run_underlying h]
theorem eql_func (h : P.underlying t = some (.func ps rs vd)) (fn : Fn) (fi ca : Array Value) (w : World) : (binOp .eql t (.func fn fi ca) .nilFunc).run P w = .ok (.bool false) w := by
 simp only [binOp]
 simp [Op.equal, Op.maxDepth, eqIn_func h fn fi ca w 9999]
end
end Go.Proofs.YtkjchoamdibolaaDoor
namespace Go.Proofs.YtkjchoamdibolaaDoor
open Go.RowKit Ku St
attribute [local go_sem] Oper.semAt_some
def jn (l : List ByteArray) : List UInt8 := l.flatMap fun k => 47 :: k.data.toList
def joinB (l : List ByteArray) : ByteArray := if l.length = 0 then ⟨#[47]⟩ else ⟨(jn l).toArray⟩
theorem jn_snoc (l : List ByteArray) (x : ByteArray) : Lib.byteCells (jn l) ++ [.int .u8 47] ++ Lib.strCells x = Lib.byteCells (jn (l ++ [x])) := by
 unfold jn
 rw [List.flatMap_append]
 simp [Lib.byteCells, Lib.strCells]
def CKept (A B : World) : Prop := ∀ (k : Nat) (c : Array Value) (t : TypeId) (fz : Nat × Nat), A.heap[k]? = some (Obj.cells c t fz) → B.heap[k]? = some (Obj.cells c t fz)
theorem bld_kept {T e : TypeId} {B b : Nat} {bs : List Value} {A A' : World} (h : Lib.IsBuilderF T e B b bs A) (hk : CKept A A') : Lib.IsBuilderF T e B b bs A' := by
 have one : ∀ p, Lib.BuilderAtF T e B b p bs A → Lib.BuilderAtF T e B b p bs A' := by
  rintro p ⟨hB, v, hb, ⟨h1, h2⟩, hne⟩
  refine ⟨hB, v, hk _ _ _ _ hb, ⟨h1, ?_⟩, hne⟩
  rcases h2 with h | ⟨g, cap, cur, fz, e1, e2, e3, r⟩
  · exact .inl h
  · exact .inr ⟨g, cap, cur, fz, e1, e2, hk _ _ _ _ e3, r⟩
 exact h.imp (one _) (one _)
theorem fr_kept {l : List ByteArray} {z n cr : Nat} {ar : Option Addr} {A A' : World} (h : FrAt A l z ar n cr) (hs : A.heap.size ≤ A'.heap.size) (hz : A'.heap[z]? = A.heap[z]?) (hr : ∀ ad, ar = some ad → A'.heap[ad.block]? = A.heap[ad.block]?) : FrAt A' l z ar n cr := by
 refine ⟨hz.trans h.box, ?_, h.len, h.cap, h.form, fun ad had => ⟨(h.ne ad had).1, Nat.lt_of_lt_of_le (h.ne ad had).2 hs⟩, fun ad had => ?_⟩
 · intro i hi
   obtain ⟨b, off, e, c⟩ := h.row i hi
   refine ⟨b, off, e, ?_⟩
   have := hr _ e
   unfold World.cell? at c ⊢
   show (match A'.heap[b]? with | some (.cells cs _ _) => cs[off + i]? | _ => none) = _
   rw [show A'.heap[b]? = A.heap[b]? from this]
   exact c
 · obtain ⟨cur, fz, e⟩ := h.obj ad had
   exact ⟨cur, fz, (hr ad had).trans e⟩
theorem bld_box {T e : TypeId} {B b : Nat} {bs : List Value} {A : World} (h : Lib.IsBuilderF T e B b bs A) : ∃ cs, A.heap[b]? = some (.cells cs T (0, 0)) := by
 rcases h with ⟨_, v, hb, _⟩ | ⟨_, v, hb, _⟩ <;> exact ⟨_, hb⟩
structure JnI (l : List ByteArray) (b z : Nat) (ar : Option Addr) (n cr : Nat) (w : World) (pre : List FX) (W : World) : Prop where
 bld : Lib.IsBuilderF 53 5 b b (Lib.byteCells (jn (l.take pre.length))) W
 fr : FrAt W l z ar n cr
 bel : Below w.heap.size w W
theorem jnI_kept {l : List ByteArray} {b z n cr : Nat} {ar : Option Addr} {w : World} {pre : List FX} {A A' : World} (h : JnI l b z ar n cr w pre A) (hk : CKept A A') (hb : Below w.heap.size w A') (hs : A.heap.size ≤ A'.heap.size) : JnI l b z ar n cr w pre A' :=
 ⟨bld_kept h.bld hk, fr_kept h.fr hs ((hk _ _ _ _ h.fr.box).trans h.fr.box.symm) (fun ad had => by obtain ⟨cur, fz, e⟩ := h.fr.obj ad had; rw [e]; exact hk _ _ _ _ e), hb⟩
theorem jnI_own {l : List ByteArray} {b z n cr : Nat} {ar : Option Addr} {w : World} (B : Nat) (hB : w.heap.size ≤ B) : OwnFrom B (JnI l b z ar n cr w) := by
 rintro pre A A' row h hg hr
 exact jnI_kept h (fun k c t fz e => heap_kp hg (fun r e => (hr r e).2) e) (ownFrom_below (β := Unit) (Nat.le_refl _) hB () A A' row h.bel hg hr) hg.size
theorem oth_fr {l : List ByteArray} {b z n cr : Nat} {ar : Option Addr} {A A' : World} {bs : List Value} (h : FrAt A l z ar n cr) (hbl : Lib.IsBuilderF 53 5 b b bs A) (hzb : z ≠ b) (hrb : ∀ ad, ar = some ad → ad.block ≠ b) (hs : A.heap.size ≤ A'.heap.size) (ho : Lib.OthersKept 5 (some b) A A') : FrAt A' l z ar n cr :=
 fr_kept h hs (by rw [h.box]; exact ho z _ h.box (by simpa using hzb) (fun c fz e => by cases e)) (fun ad had => by
  obtain ⟨cur, fz, e⟩ := h.obj ad had
  rw [e]
  exact ho _ _ e (by simpa using hrb ad had) (fun c fz e => by cases e))
theorem oth_from {B b : Nat} {A A' : World} {bs : List Value} (hbl : Lib.IsBuilderF 53 5 b b bs A) (hs : A.heap.size ≤ A'.heap.size) (ho : Lib.OthersKept 5 (some b) A A') : KeepsFrom B A A' :=
 ⟨hs, fun k o _ hk hc => by
  obtain ⟨cs, e⟩ := bld_box hbl
  refine ho k o hk (fun e2 => ?_) (fun c fz e2 => ?_)
  · cases e2; rw [e] at hk; cases hk; cases hc
  · rw [e2] at hc; cases hc⟩
theorem oth_keep {l : List ByteArray} {b z n cr : Nat} {ar : Option Addr} {A A' : World} (h : FrAt A l z ar n cr) (hbl : Below b A A') (hzb : z ≠ b) (hrb : ∀ ad, ar = some ad → ad.block ≠ b) (ho : Lib.OthersKept 5 (some b) A A') : KeepU (fun k => k = z ∨ ∃ ad, ar = some ad ∧ ad.block = k) A A' :=
 ⟨hbl.os, hbl.tape, hbl.output, hbl.size, fun k hk => by
  rcases hk with rfl | ⟨ad, had, rfl⟩
  · rw [h.box]; exact ho k _ h.box (by simpa using hzb) (fun c fz e => by cases e)
  · obtain ⟨cur, fz, e⟩ := h.obj ad had
    rw [e]
    exact ho _ _ e (by simpa using hrb ad had) (fun c fz e => by cases e)⟩
theorem jn_len : ∀ (l : List ByteArray), (∀ x ∈ l, x.size ≤ 64) → (jn l).length ≤ 65 * l.length
 | [], _ => by simp [jn]
 | x :: l, h => by
  have ih := jn_len l fun y hy => h y (List.mem_cons_of_mem _ hy)
  have hx := h x List.mem_cons_self
  have e : jn (x :: l) = 47 :: (x.data.toList ++ jn l) := by simp [jn]
  rw [e, List.length_cons, List.length_append, List.length_cons]
  simp only [Array.length_toList]
  show x.size + _ + 1 ≤ _
  omega
theorem pathG_sz {l : List ByteArray} (h : pathG l = true) : l.length ≤ 6 ∧ ∀ x ∈ l, x.size ≤ 64 := by
 unfold pathG at h
 simp only [Bool.and_eq_true, decide_eq_true_eq, List.all_eq_true] at h
 refine ⟨h.1, fun x hx => ?_⟩
 have := h.2 x hx
 unfold keyG at this
 simp only [Bool.and_eq_true, decide_eq_true_eq] at this
 exact this.2.1
set_option maxRecDepth 100000 in
set_option maxHeartbeats 4000000 in
theorem key_Join (l : List ByteArray) (a : Option Addr) (n c : Nat) (w : World) (hl : CellsAt w a (txV l)) (hn : n = l.length) (hs : ∀ x ∈ l, x.size ≤ 9223372036854775807) (hG : Glob w) :
 Calls Tryd.prog 8 #[.slice a n c] w fun e w' => e = .returned (.tuple #[.string (if pathG l = true then joinB l else ⟨#[]⟩), .int .i64 (if pathG l = true then 0 else 2)]) ∧ Below w.heap.size w w' := by
 have HL := Lib.hid hl
 have HN := Lib.hid hn
 have HSZ := Lib.hid hs
 have G := Lib.hid hG
 obtain ⟨rs, hrs⟩ : ∃ r, (if pathG l = true then joinB l else ⟨#[]⟩) = r := ⟨_, rfl⟩
 obtain ⟨re, hre⟩ : ∃ r : Int, (if pathG l = true then 0 else 2) = r := ⟨_, rfl⟩
 have RS := Lib.hid hrs
 have RE := Lib.hid hre
 rw [hrs, hre]
 clear hl hn hs hG hrs hre
 refine (callsIn_wide (n := 6)).1 ?_
 refine callsIn_of_wp_marks Tryd.func8 rfl trivial ?_ rfl
 simp only [Tryd.ntmps8, List.size_toArray, List.length_cons, List.length_nil, Nat.reduceAdd, Nat.reduceSub, Array.replicate_succ, Array.replicate_zero, List.push_toArray, List.append_toArray, List.nil_append, List.cons_append]
 gi_wp2
 refine ⟨trivial, ?_⟩
 refine (callsIn_wide.2 (key_Path l a n c w HL.out HN.out HSZ.out G.out)).mono ?_
 rintro e w1 ⟨rfl, hb⟩
 have HB := Lib.hid hb
 clear hb
 obtain ⟨pg, hpg⟩ : ∃ r, pathG l = r := ⟨_, rfl⟩
 rw [hpg] at RS RE ⊢
 have PG := Lib.hid hpg
 clear hpg
 cases pg
 case false =>
  obtain rfl : (⟨#[]⟩ : ByteArray) = rs := by rw [← RS.out]; rfl
  obtain rfl : (2 : Int) = re := by rw [← RE.out]; rfl
  gi_wp2
  try show LeavesInM _ _ _ _ _ _ (marks []) _ _
  refine leaves_marks [] _ (by simp) (fun p hp => by cases hp) ?_
  intro W' e1 e2 e3 e4 e5
  have bW : Below w.heap.size w W' := ⟨e1.trans HB.out.os, e2.trans HB.out.tape, e3.trans HB.out.output, by rw [e4]; exact HB.out.size, fun k hk => (e5 k (by simp)).trans (HB.out.block k hk)⟩
  exact ⟨.tuple #[.string ⟨#[]⟩, .int .i64 2], by simp [results, Tryd.results8, go_sem], rfl, bW⟩
 obtain rfl : (0 : Int) = re := by rw [← RE.out]; rfl
 by_cases h0 : n = 0
 · have h0i : ((n : Int) == 0) = true := by simpa using h0
   obtain rfl : (⟨#[47]⟩ : ByteArray) = rs := by rw [← RS.out, if_pos rfl]; unfold joinB; rw [if_pos (by rw [← HN.out]; exact h0)]
   gi_wp2
   try show LeavesInM _ _ _ _ _ _ (marks []) _ _
   refine leaves_marks [] _ (by simp) (fun p hp => by cases hp) ?_
   intro W' e1 e2 e3 e4 e5
   have bW : Below w.heap.size w W' := ⟨e1.trans HB.out.os, e2.trans HB.out.tape, e3.trans HB.out.output, by rw [e4]; exact HB.out.size, fun k hk => (e5 k (by simp)).trans (HB.out.block k hk)⟩
   exact ⟨.tuple #[.string ⟨#[47]⟩, .int .i64 0], by simp [results, Tryd.results8, go_sem], rfl, bW⟩
 have h0i : ((n : Int) == 0) = false := by simpa using h0
 have RJ : Hid ((⟨(jn l).toArray⟩ : ByteArray) = rs) := Lib.hid (by rw [← RS.out, if_pos rfl]; unfold joinB; rw [if_neg (by rw [← HN.out]; exact h0)])
 have LE6 := Lib.hid (pathG_sz PG.out)
 have hn6 : n ≤ 6 := by have := LE6.out.1; rw [← HN.out] at this; exact this
 clear RS RE h0
 gi_wp2
 refine ⟨trivial, ?_⟩
 obtain ⟨b, hbz⟩ : ∃ b, w1.heap.size = b := ⟨_, rfl⟩
 have HX1 := Lib.hid (World.alloc_heap_new w1 (.cells #[.pointer none, .slice none 0 0] 53))
 have HB2 := Lib.hid (HB.out.alloc HB.out.size (.cells #[.pointer none, .slice none 0 0] 53))
 have HSW : Hid (w.heap.size ≤ b) := Lib.hid (by rw [← hbz]; exact HB.out.size)
 have HS2 : Hid ((w1.alloc (.cells #[.pointer none, .slice none 0 0] 53)).heap.size = b + 1) := Lib.hid (by rw [World.size_alloc, hbz])
 rw [hbz] at HX1
 generalize w1.alloc (.cells #[.pointer none, .slice none 0 0] 53) = w2 at *
 rw [hbz]
 clear hbz
 refine (callsIn_wide.2 (key_Fronts l a n c w2 (HL.out.below HB2.out rfl) HN.out (by omega))).mono ?_
 rintro e w3 ⟨z, ar, cr, rfl, hfr, hz, hzr, hb3⟩
 have FR := Lib.hid hfr
 have ZB : Hid (b < z ∧ ∀ ad, ar = some ad → b < ad.block) := Lib.hid ⟨by have := HS2.out; omega, fun ad had => by have := hzr ad had; have := HS2.out; omega⟩
 have BE := Lib.hid hb3
 have HB3 : Hid (Below w.heap.size w w3) := Lib.hid (HB2.out.trans (hb3.mono HB2.out.size))
 have BX := Lib.hid (boxStays HX1.out hb3)
 clear hfr hz hzr hb3
 gi_wp2
 have SD : Hid (∀ k, (k = z ∨ ∃ ad, ar = some ad ∧ ad.block = k) → k < w3.heap.size ∧ b < k) := Lib.hid (fun k hk => by
  rcases hk with rfl | ⟨ad, had, rfl⟩
  · exact ⟨(Array.getElem?_eq_some_iff.1 FR.out.box).1, ZB.out.1⟩
  · exact ⟨(FR.out.ne ad had).2, ZB.out.2 ad had⟩)
 have HIter := fronts1_iter 5 (by omega) l z ar n cr w3 FR.out (by omega) w3.heap.size (fun k => k = z ∨ ∃ ad, ar = some ad ∧ ad.block = k) (Nat.le_refl _) (fun k hk => (SD.out k hk).1) (.inl rfl) (fun ad had => .inr ⟨ad, had, rfl⟩)
 have HW3 : Hid (w.heap.size ≤ w3.heap.size) := Lib.hid HB3.out.size
 refine range_law2 (n := 6) rfl (enters_of Tryd.func32 (by kernel_rfl) rfl) HIter (by omega) KeepU.trans (fun W o o' _ _ => KeepU.put (N := w3.heap.size) W _ o' (by omega) (fun k hk => (SD.out k hk).1)) (fun x => rfl) (fun pre => FrX_own _ _ _ pre) ?_ (JnI l b z ar n cr w) (fun _ _ _ => False) (fun xs W => xs.length = l.length ∧ JnI l b z ar n cr w xs W) (jnI_own _ HW3.out) ?_ ?_ ?_ ⟨.inl ⟨Nat.le_refl _, _, BX.out, ⟨rfl, .inl ⟨rfl, rfl⟩⟩, by simp [Value.ownBlock]⟩, FR.out, HB3.out⟩
  (fun pre x a' W => JnI l b z ar n cr w pre W ∧ (pre.length < l.length ∧ ∀ h : pre.length < l.length, x.k = l[pre.length]) ∧ a' = { tmps := #[.slice a n c, undef, .string ⟨#[]⟩, .int .i64 0, .pointer (some ⟨b, 0, none⟩), undef, .string x.k, .bool false, .slice a n c, .bool true, .bool false, .bool false, .slice a n c, .int .i64 (n : Int), .bool false, .slice a n c, .func (.func 32) #[] #[.pointer (some ⟨z, 0, none⟩)], .slice x.a x.n x.c, .string x.k, undef, undef, undef, undef], defers := [] }) ?_ ?assign ?body ?done ?stop
 · rintro W1 hW1 ys A B ⟨_, rfl⟩ k o hk ho _
   exact ho
 · rintro c pre A A' row h hg hr
   exact h
 · rintro ys A A' row ⟨h1, h2⟩ hg hr
   exact ⟨h1, jnI_own _ HW3.out ys A A' row h2 hg hr⟩
 · rintro W1 hW1 ys A B h ⟨hm, rfl⟩
   exact ⟨hm, h⟩
 · rintro x a' pre A A' row ⟨h1, h2, h3⟩ hg hr
   exact ⟨jnI_own _ HW3.out pre A A' row h1 hg hr, h2, h3⟩
 case assign =>
  rintro l1 pre x W1 K hi hx hsz hK
  have HI := Lib.hid hi
  have HXX := Lib.hid hx
  clear hi hx
  simp only [encFX, List.zip_toArray, List.zip_cons_cons, List.zip_nil_right, List.foldl_toArray, List.foldl_cons, List.foldl_nil]
  gi_wp2
  exact hK _ _ (KeepsFrom.refl _ _) (KeepU.refl _ _) hsz ⟨HI.out, ⟨HXX.out.1, HXX.out.2.1⟩, rfl⟩
 case body =>
  rintro l1 pre x a' W1 ⟨hI, ⟨hx1, hx2⟩, rfl⟩ hsz
  have HI := Lib.hid hI
  have XS : Hid (l.take (pre.length + 1) = l.take pre.length ++ [x.k]) := Lib.hid (by rw [List.take_succ_eq_append_getElem hx1, hx2 hx1])
  have SX : Hid (x.k.size ≤ 64) := Lib.hid (by rw [hx2 hx1]; exact LE6.out.2 _ (List.getElem_mem hx1))
  have JL : Hid ((jn (l.take pre.length)).length ≤ 390) := Lib.hid (by
   have h := jn_len (l.take pre.length) (fun y hy => LE6.out.2 y (List.mem_of_mem_take hy))
   have h2 := List.length_take_le pre.length l
   have h3 := LE6.out.1
   rw [List.length_take] at h
   omega)
  have ZN : Hid (z ≠ b ∧ ∀ ad, ar = some ad → ad.block ≠ b) := Lib.hid ⟨by have := ZB.out.1; omega, fun ad had => by have := ZB.out.2 ad had; omega⟩
  have BL1 : Hid (b ≤ W1.heap.size) := Lib.hid (by obtain ⟨cs, e⟩ := bld_box HI.out.bld; have := (Array.getElem?_eq_some_iff.1 e).1; omega)
  clear hI hx2 hx1 HIter
  gi_wp2
  refine ⟨trivial, ?_⟩
  refine (CallsIn.inRound l1 (callsIn_wide.2 (kb_WriteByte b b _ 47 W1 HI.out.bld (by rw [Lib.byteCells_length]; have := JL.out; omega) BL1.out))).mono ?_
  rintro e W2 ⟨rfl, hbA, hbel, hoth⟩
  have B2 := Lib.hid hbA
  have K2 := Lib.hid hbel
  have O2 := Lib.hid hoth
  have F2 := Lib.hid (oth_fr HI.out.fr HI.out.bld ZN.out.1 ZN.out.2 hbel.size hoth)
  have KF2 := Lib.hid (oth_from (B := w3.heap.size) HI.out.bld hbel.size hoth)
  have KU2 := Lib.hid (oth_keep HI.out.fr hbel ZN.out.1 ZN.out.2 hoth)
  have BL2 : Hid (b ≤ W2.heap.size) := Lib.hid (Nat.le_trans BL1.out hbel.size)
  clear hbA hbel hoth
  gi_wp2
  refine ⟨trivial, ?_⟩
  refine (CallsIn.inRound l1 (callsIn_wide.2 (kb_WriteString b b _ x.k W2 (.inr B2.out) (by rw [List.length_append, Lib.byteCells_length]; have := JL.out; have := SX.out; simp; omega) BL2.out))).mono ?_
  rintro e W3 ⟨rfl, hbA, hbel, hoth⟩
  have B3 := Lib.hid hbA
  have K3 := Lib.hid hbel
  have F3 := Lib.hid (oth_fr F2.out (.inr B2.out) ZN.out.1 ZN.out.2 hbel.size hoth)
  have KF3 := Lib.hid (oth_from (B := w3.heap.size) (.inr B2.out) hbel.size hoth)
  have KU3 := Lib.hid (oth_keep F2.out hbel ZN.out.1 ZN.out.2 hoth)
  clear hbA hbel hoth
  gi_wp2
  refine ⟨KF2.out.trans KF3.out, KU2.out.trans KU3.out, .inr ?_, F3.out, HI.out.bel.trans ((K2.out.mono HSW.out).trans (K3.out.mono HSW.out))⟩
  rw [List.length_append, List.length_singleton, XS.out, ← jn_snoc]
  exact B3.out
 case done =>
  rintro D xs W1 hD ⟨hlen, hI⟩ hK
  have HI := Lib.hid hI
  have HLEN := Lib.hid hlen
  have HKD := Lib.hid hK
  have BL1 : Hid (b ≤ W1.heap.size) := Lib.hid (by obtain ⟨cs, e⟩ := bld_box HI.out.bld; have := (Array.getElem?_eq_some_iff.1 e).1; omega)
  clear hI hlen hK HIter
  simp only [Exit.inBlock]
  gi_wp2
  refine ⟨trivial, ?_⟩
  refine (callsIn_wide.2 (kb_String b b (jn l) W1 (by have := HI.out.bld; rw [HLEN.out, List.take_length] at this; exact this) BL1.out)).mono ?_
  rintro e W2 ⟨rfl, _, hbel, hoth⟩
  have BW : Hid (Below w.heap.size w W2) := Lib.hid (HI.out.bel.trans (hbel.mono HSW.out))
  have HKD2 : Hid (W2.heap[D]? = some (.deferred (some []))) := Lib.hid (hoth D _ HKD.out (fun e2 => by
   obtain ⟨cs, e⟩ := bld_box HI.out.bld
   cases e2
   rw [e] at HKD
   cases HKD.out) (fun c fz e2 => by cases e2))
  clear hbel hoth
  gi_wp2
  try show LeavesInM _ _ _ _ _ _ (marks [D]) _ _
  refine leaves_marks [D] _ (by simp) (fun p hp => ?_) ?_
  · obtain rfl : p = (D, .deferred (some [])) := by simpa [markF] using hp
    exact HKD2.out
  · intro W' e1 e2 e3 e4 e5
    have bW : Below w.heap.size w W' := ⟨e1.trans BW.out.os, e2.trans BW.out.tape, e3.trans BW.out.output, by rw [e4]; exact BW.out.size, fun k hk => (e5 k (by simp; have := HW3.out; omega)).trans (BW.out.block k hk)⟩
    exact ⟨.tuple #[.string ⟨(jn l).toArray⟩, .int .i64 0], by simp [results, Tryd.results8, go_sem], by rw [RJ.out], bW⟩
 case stop =>
  rintro D c pre W1 hD hSp h hK
  exact h.elim
end Go.Proofs.YtkjchoamdibolaaDoor
namespace Go.Proofs.YtkjchoamdibolaaDoor
open Go.RowKit Ku St
def mkB (l : List UInt8) : ByteArray := ⟨l.toArray⟩
def spl : Nat → List UInt8 → List (List UInt8)
 | 0, _ => []
 | f + 1, r => (Lib.cut r [47]).1 :: (if (Lib.cut r [47]).2.2 = true then spl f (Lib.cut r [47]).2.1 else [])
def splitG (s : ByteArray) : Option (List ByteArray) :=
 if s = ⟨#[47]⟩ then some [] else if Lib.hasPrefix s.data.toList [47] = true then (if pathG ((spl 7 (s.data.toList.drop 1)).map mkB) = true then some ((spl 7 (s.data.toList.drop 1)).map mkB) else none) else none
def lenOf : Value → Nat
 | .slice _ n _ => n
 | _ => 0
theorem spl_start {tp : List UInt8} {X : List (List UInt8)} (h : spl 7 tp = X) : X = [] ++ spl (7 - ([] : List (List UInt8)).length) tp := h.symm
theorem spl_stop {P X : List (List UInt8)} {r : List UInt8} (h : X = P ++ spl (7 - P.length) r) (h6 : ¬ P.length ≤ 6) : X = P := by
 have e : 7 - P.length = 0 := by omega
 rw [e] at h
 rw [h]
 exact List.append_nil _
theorem spl_next {P X : List (List UInt8)} {r c1 c2 : List UInt8} {c3 : Bool} (h : X = P ++ spl (7 - P.length) r) (h6 : P.length ≤ 6) (hc : Lib.cut r [47] = (c1, c2, c3)) : X = (P ++ [c1]) ++ (if c3 = true then spl (7 - (P ++ [c1]).length) c2 else []) := by
 obtain ⟨f, hf⟩ : ∃ f, 7 - P.length = f + 1 := ⟨6 - P.length, by omega⟩
 rw [hf, spl, hc] at h
 rw [h, List.append_assoc, List.length_append, List.length_singleton, show 7 - (P.length + 1) = f by omega]
 rfl
theorem cut_len (r : List UInt8) : (Lib.cut r [47]).1.length ≤ r.length ∧ (Lib.cut r [47]).2.1.length ≤ r.length := by
 unfold Lib.cut
 split
 · exact ⟨by rw [List.length_take]; omega, by rw [List.length_drop]; omega⟩
 · exact ⟨Nat.le_refl _, Nat.zero_le _⟩
theorem mkB_size (l : List UInt8) : (mkB l).size = l.length := by simp [mkB, ByteArray.size]
theorem txV_snoc (P : List ByteArray) (x : ByteArray) : txV (P ++ [x]) = txV P ++ [.string x] := by simp [txV]
def SplOut (s : ByteArray) (v : Value) (er : Int) (w' : World) : Prop :=
 match splitG s with
 | some L => er = 0 ∧ ∃ a c, v = .slice a L.length c ∧ CellsAt w' a (txV L)
 | none => er = 4 ∧ v = .slice none 0 0
set_option maxRecDepth 100000 in
set_option maxHeartbeats 1000000 in
theorem key_Split (s : ByteArray) (w : World) (hs : s.size ≤ 100000) (hG : Glob w) :
 Calls Tryd.prog 19 #[.string s] w fun e w' => ∃ (v : Value) (er : Int), e = .returned (.tuple #[v, .int .i64 er]) ∧ SplOut s v er w' ∧ Below w.heap.size w w' := by
 have G := Lib.hid hG
 have ST := Lib.hid sxT
 have HS : Hid (s.data.toList.length ≤ 100000) := Lib.hid (by simpa using hs)
 obtain ⟨S, hS⟩ : ∃ S, splitG s = S := ⟨_, rfl⟩
 have SG := Lib.hid hS
 obtain ⟨OUT, hOUT⟩ : ∃ P : Value → Int → World → Prop, P = SplOut s := ⟨_, rfl⟩
 have ON : Hid (S = none → OUT (.slice none 0 0) 4 = fun _ => True) := Lib.hid (fun h => by rw [hOUT]; funext w'; unfold SplOut; rw [hS, h]; simp)
 have OS : Hid (∀ L, S = some L → ∀ a c w', CellsAt w' a (txV L) → OUT (.slice a L.length c) 0 w') := Lib.hid (fun L h a c w' hc => by rw [hOUT]; unfold SplOut; rw [hS, h]; exact ⟨rfl, a, c, rfl, hc⟩)
 rw [← hOUT]
 clear hG hs hS hOUT
 go_enter Tryd.func19, Tryd.ntmps19
 go_upto_region 1 with (fail)
 go_step3
 by_cases h1 : s = ⟨#[47]⟩
 · subst h1
   have O := Lib.hid (OS.out [] (by rw [← SG.out]; rfl) none 0 w (CellsAt.nil _ _))
   go_wp2_with fail
   try rw [Exit.noGoto_ret]
   go_ret2
   exact ⟨.slice none 0 0, 0, rfl, O.out, Below.refl _ _⟩
 have h1d : (s.toList == (⟨#[47]⟩ : ByteArray).toList) = false := by rw [Pm.eq_iff]; simpa using h1
 have h1e : (s.toList == [47]) = false := by have e : (⟨#[47]⟩ : ByteArray).toList = [47] := (by rw [ByteArray.toList_eq]); rw [← e]; exact h1d
 go_wp2_with fail
 refine (ks_CutPrefix s ⟨#[47]⟩ w).mono ?_
 rintro e w0 ⟨rfl, hw0⟩
 rw [hw0]
 clear hw0
 obtain ⟨hp, hhp⟩ : ∃ r, Lib.hasPrefix s.data.toList (⟨#[47]⟩ : ByteArray).data.toList = r := ⟨_, rfl⟩
 obtain ⟨tp, htp⟩ : ∃ r, Lib.trimPrefix s.data.toList (⟨#[47]⟩ : ByteArray).data.toList = r := ⟨_, rfl⟩
 rw [hhp, htp]
 have HP := Lib.hid hhp
 have TP := Lib.hid htp
 have NE1 := Lib.hid h1
 clear hhp htp h1 h1d h1e
 cases hp
 case false =>
  obtain rfl : none = S := by rw [← SG.out]; unfold splitG; rw [if_neg NE1.out, if_neg (by have := HP.out; simp at this ⊢; exact this)]
  have O := Lib.hid (ON.out rfl)
  go_wp2_with fail
  try rw [Exit.noGoto_ret]
  go_ret2
  exact ⟨.slice none 0 0, 4, rfl, by rw [O.out]; trivial, Below.refl _ _⟩
 have TQ : Hid (tp = s.data.toList.drop 1) := Lib.hid (by rw [← TP.out]; unfold Lib.trimPrefix; rw [if_pos HP.out]; rfl)
 have SQ : Hid (S = if pathG ((spl 7 tp).map mkB) = true then some ((spl 7 tp).map mkB) else none) := Lib.hid (by rw [← SG.out, TQ.out]; unfold splitG; rw [if_neg NE1.out, if_pos (by have := HP.out; exact this)])
 have TL : Hid (tp.length ≤ 100000) := Lib.hid (by rw [TQ.out, List.length_drop]; have := HS.out; omega)
 clear SG HP TP NE1
 go_wp2_with fail
 go_step3
 go_wp2_with fail
 obtain ⟨X, hX⟩ : ∃ X, spl 7 tp = X := ⟨_, rfl⟩
 rw [hX] at SQ
 have SP0 : Hid (X = [] ++ spl (7 - ([] : List (List UInt8)).length) tp) := Lib.hid (spl_start hX)
 clear hX
 go_loopw [4, 6] (fun rv lv wr => ∃ (P : List (List UInt8)) (r : List UInt8) (a : Option Addr) (c : Nat), rv = .string ⟨r.toArray⟩ ∧ P.length ≤ 7 ∧ lv = .slice a P.length c ∧ Hid (wr.ownsRow w.heap.size 9 1 lv P.length (txV (P.map mkB))) ∧ Hid (X = P ++ spl (7 - P.length) r) ∧ Hid (∀ p ∈ P, p.length ≤ 100000) ∧ Hid (r.length ≤ 100000) ∧ Hid (Below w.heap.size w wr)) (fun _ lv _ => 7 - lenOf lv)
 case atStart => exact ⟨[], tp, none, 0, rfl, Nat.zero_le _, rfl, Lib.hid ⟨rfl, Or.inl ⟨rfl, rfl⟩⟩, SP0, Lib.hid (fun p hp => by cases hp), TL, Lib.hid (Below.refl _ _)⟩
 case round =>
  obtain ⟨P, r, a, c, rfl, hP7, rfl, HO, HSP, HPL, HRL, HB⟩ := hrel
  by_cases h6 : P.length ≤ 6
  · have h6i : (P.length : Int) ≤ 6 := by omega
    obtain ⟨c1, c2, c3, hc⟩ : ∃ c1 c2 c3, Lib.cut r [47] = (c1, c2, c3) := ⟨_, _, _, rfl⟩
    have SPL : Hid (X = (P ++ [c1]) ++ (if c3 = true then spl (7 - (P ++ [c1]).length) c2 else [])) := Lib.hid (by
     exact spl_next HSP.out h6 hc)
    have CL := Lib.hid (cut_len r)
    rw [hc] at CL
    have HC := Lib.hid hc
    clear hc HSP
    obtain ⟨m, hm⟩ := (G.out.below HB.out).2
    go_wp2_with fail
    refine (ks_Cut ⟨r.toArray⟩ ⟨#[47]⟩ m wr (by show r.toArray.size < _; have := HRL.out; simp; omega) hm).mono ?_
    rintro e w2 ⟨rfl, nd, hw2⟩
    have B2 : Hid (Below wr.heap.size wr w2) := Lib.hid (by rw [hw2]; exact below_drewNv (Below.refl _ _) nd)
    have EC : Lib.cut (⟨r.toArray⟩ : ByteArray).data.toList (⟨#[47]⟩ : ByteArray).data.toList = (c1, c2, c3) := HC.out
    rw [EC]
    have O2 := Lib.hid (own_later HO.out B2.out (Nat.le_refl _))
    have HB2 := Lib.hid (HB.out.trans (B2.out.mono HB.out.size))
    have HWS := Lib.hid HB2.out.size
    clear hw2 hm EC
    have HPL2 : Hid (∀ p ∈ P ++ [c1], p.length ≤ 100000) := Lib.hid (fun p hp => by
     rcases List.mem_append.1 hp with h | h
     · exact HPL.out p h
     · rw [List.mem_singleton.1 h]; exact Nat.le_trans CL.out.1 HRL.out)
    have HRL2 : Hid (c2.length ≤ 100000) := Lib.hid (Nat.le_trans CL.out.2 HRL.out)
    have EL : (P ++ [c1]).length = P.length + 1 := by simp
    obtain ⟨PP, hPP⟩ : ∃ q, q = P ++ [c1] := ⟨_, rfl⟩
    rw [← hPP] at SPL HPL2
    have HPL9 := HPL2
    have EPL : P.length + 1 = PP.length := by rw [hPP, EL]
    cases c3 with
    | false =>
     have EQ9 : Hid (X = PP) := Lib.hid (by rw [SPL.out, if_neg (by simp), List.append_nil])
     go_wp2_with (at_builtin; go_must (refine wpList_app rfl _ _ 22 22 rfl w.heap.size 9 _ 1 16 ST.out (.slice a P.length c) P.length (txV (P.map mkB)) rfl (O2.out.alloc _) _ 1 [.string ⟨c1.toArray⟩] rfl ((CellsAt.new w2 9 (0, 0) [.string ⟨c1.toArray⟩]).srcN rfl (by simp [Value.oneCell']) Tryd.underlying22 1 (by decide)) (by omega) (by omega) (by have := HWS.out; simp; omega) ?_); go_must (intro v6 w6 hown _ hbel _))
     obtain ⟨a6, c6, rfl, _⟩ := own_slice hown
     have HO9 : Hid (w6.ownsRow w.heap.size 9 1 (.slice a6 PP.length c6) PP.length (txV (PP.map mkB))) := Lib.hid (by rw [hPP, EL, List.map_append, List.map_cons, List.map_nil, txV_snoc]; exact hown)
     have HB9 := Lib.hid ((HB2.out.alloc HWS.out _).trans hbel)
     clear hown hbel
     go_wp2_with fail
     rw [EPL]
     clear EPL hPP EL
     have CC : Hid (CellsAt w6 a6 (txV (PP.map mkB))) := Lib.hid (CellsAt.ownN HO9.out)
     refine (key_Path (PP.map mkB) a6 PP.length c6 w6 CC.out (by rw [List.length_map]) (fun x hx => by obtain ⟨p, hp, rfl⟩ := List.mem_map.1 hx; rw [mkB_size]; have := HPL9.out p hp; omega) (G.out.below HB9.out)).mono ?_
     rintro e wZ ⟨rfl, hbz⟩
     have HBZ := Lib.hid (HB9.out.trans (hbz.mono HB9.out.size))
     have CZ := Lib.hid (CC.out.below hbz rfl)
     clear hbz
     obtain ⟨pg, hpg⟩ : ∃ q, pathG (PP.map mkB) = q := ⟨_, rfl⟩
     rw [hpg]
     have SF : Hid (S = if pg = true then some (PP.map mkB) else none) := Lib.hid (by rw [SQ.out, EQ9.out, hpg])
     clear hpg
     cases pg with
     | false =>
      have O := Lib.hid (ON.out (by rw [SF.out]; rfl))
      go_wp2_with fail
      try rw [Exit.noGoto_ret]
      go_ret2
      exact ⟨.slice none 0 0, 4, rfl, by rw [O.out]; trivial, HBZ.out⟩
     | true =>
      have O := Lib.hid (OS.out (PP.map mkB) (by rw [SF.out]; rfl) a6 c6 wZ CZ.out)
      go_wp2_with fail
      try rw [Exit.noGoto_ret]
      go_ret2
      exact ⟨.slice a6 PP.length c6, 0, rfl, by have h := O.out; rw [List.length_map] at h; exact h, HBZ.out⟩
    | true =>
     have SP9 : Hid (X = PP ++ spl (7 - PP.length) c2) := Lib.hid (by rw [SPL.out, if_pos rfl])
     have hP8 : PP.length ≤ 7 := by omega
     go_wp2_with (at_builtin; go_must (refine wpList_app rfl _ _ 22 22 rfl w.heap.size 9 _ 1 16 ST.out (.slice a P.length c) P.length (txV (P.map mkB)) rfl (O2.out.alloc _) _ 1 [.string ⟨c1.toArray⟩] rfl ((CellsAt.new w2 9 (0, 0) [.string ⟨c1.toArray⟩]).srcN rfl (by simp [Value.oneCell']) Tryd.underlying22 1 (by decide)) (by omega) (by omega) (by have := HWS.out; simp; omega) ?_); go_must (intro v6 w6 hown _ hbel _))
     obtain ⟨a6, c6, rfl, _⟩ := own_slice hown
     have HO9 : Hid (w6.ownsRow w.heap.size 9 1 (.slice a6 PP.length c6) PP.length (txV (PP.map mkB))) := Lib.hid (by rw [hPP, EL, List.map_append, List.map_cons, List.map_nil, txV_snoc]; exact hown)
     have HB9 := Lib.hid ((HB2.out.alloc HWS.out _).trans hbel)
     clear hown hbel
     go_wp2_with fail
     rw [EPL]
     refine ⟨⟨PP, c2, a6, c6, rfl, hP8, rfl, HO9, SP9, HPL9, HRL2, HB9⟩, ?_⟩
     show 7 - PP.length < 7 - P.length
     omega
  · have h6i : ¬ (P.length : Int) ≤ 6 := by omega
    obtain ⟨PP, rfl⟩ : ∃ q, q = P := ⟨_, rfl⟩
    have EQ9 : Hid (X = PP) := Lib.hid (spl_stop HSP.out h6)
    have HO9 := HO
    have HPL9 := HPL
    have HB9 := HB
    go_wp2_with fail
    have CC : Hid (CellsAt wr a (txV (PP.map mkB))) := Lib.hid (CellsAt.ownN HO9.out)
    refine (key_Path (PP.map mkB) a PP.length c wr CC.out (by rw [List.length_map]) (fun x hx => by obtain ⟨p, hp, rfl⟩ := List.mem_map.1 hx; rw [mkB_size]; have := HPL9.out p hp; omega) (G.out.below HB9.out)).mono ?_
    rintro e wZ ⟨rfl, hbz⟩
    have HBZ := Lib.hid (HB9.out.trans (hbz.mono HB9.out.size))
    have CZ := Lib.hid (CC.out.below hbz rfl)
    clear hbz
    obtain ⟨pg, hpg⟩ : ∃ q, pathG (PP.map mkB) = q := ⟨_, rfl⟩
    rw [hpg]
    have SF : Hid (S = if pg = true then some (PP.map mkB) else none) := Lib.hid (by rw [SQ.out, EQ9.out, hpg])
    clear hpg
    cases pg with
    | false =>
     have O := Lib.hid (ON.out (by rw [SF.out]; rfl))
     go_wp2_with fail
     try rw [Exit.noGoto_ret]
     go_ret2
     exact ⟨.slice none 0 0, 4, rfl, by rw [O.out]; trivial, HBZ.out⟩
    | true =>
     have O := Lib.hid (OS.out (PP.map mkB) (by rw [SF.out]; rfl) a c wZ CZ.out)
     go_wp2_with fail
     try rw [Exit.noGoto_ret]
     go_ret2
     exact ⟨.slice a PP.length c, 0, rfl, by have h := O.out; rw [List.length_map] at h; exact h, HBZ.out⟩
end Go.Proofs.YtkjchoamdibolaaDoor
namespace Go.Proofs.YtkjchoamdibolaaDoor
open Go.RowKit Ku St Pm
theorem cells_row {W : World} {b : Nat} {cs : List Value} {t : TypeId} {fr : Nat × Nat} (h : W.heap[b]? = some (.cells cs.toArray t fr)) : CellsAt W (some ⟨b, 0, none⟩) cs := by
 intro i hi
 refine ⟨b, 0, rfl, ?_⟩
 unfold World.cell?
 rw [h, Nat.zero_add]
 simp [hi]
theorem num_05 (x : Int) (w : World) : Calls Tryd.prog 14 #[.int .i64 x] w fun e w' => e = .returned (.int .i64 x) ∧ w = w' := by
 go_enter Tryd.func14, Tryd.ntmps14
 go_wp2
 go_ret
 exact ⟨rfl, rfl⟩
theorem num_05b (x : Int) (w : World) : Calls Tryd.prog 14 #[.int .i64 x] w fun e w' => e = .returned (.int .i64 x) ∧ Below w.heap.size w w' := (num_05 x w).mono fun _ _ ⟨h1, h2⟩ => ⟨h1, by rw [← h2]; exact Below.refl _ _⟩
theorem ref5_Same (l m : List ByteArray) (a b : Option Addr) (n1 n2 c1 c2 : Nat) (w : World) (hl : CellsAt w a (txV l)) (hm : CellsAt w b (txV m)) (hn1 : n1 = l.length) (hn2 : n2 = m.length) (b1 : n1 ≤ 9223372036854775807) (hsl : ∀ x ∈ l, x.size ≤ 9223372036854775807) (hsm : ∀ x ∈ m, x.size ≤ 9223372036854775807) :
 Calls Tryd.prog 15 #[.slice a n1 c1, .slice b n2 c2] w fun e w' => e = .returned (.bool (decide (pathC l m = 0))) ∧ Below w.heap.size w w' := by
 have C := Lib.hid (ref5_CmpPath l m a b n1 n2 c1 c2 w hl hm hn1 hn2 b1 hsl hsm)
 clear hl hm hn1 hn2 b1 hsl hsm
 generalize pathC l m = z at C ⊢
 go_enter Tryd.func15, Tryd.ntmps15
 go_wp2_with fail
 refine C.out.mono ?_
 rintro e w1 ⟨rfl, hb⟩
 have HB := Lib.hid hb
 clear hb
 by_cases hz : z = 0
 · subst hz
   go_wp2_with fail
   go_ret
   exact ⟨rfl, HB.out⟩
 · have q1 : (z == 0) = false := by simp [hz]
   have HZ := Lib.hid hz
   clear hz
   go_wp2_with fail
   go_ret
   exact ⟨by simp [HZ.out], HB.out⟩
theorem kk1 : keyG ⟨#[97]⟩ = true := by decide
theorem kk2 : keyG ⟨#[97, 47, 98]⟩ = false := by decide
theorem kk3 : keyG ⟨#[255]⟩ = false := by decide
theorem kk4 : keyG ⟨#[195, 169]⟩ = true := by decide
theorem kk6 : pathG [⟨#[97]⟩, ⟨#[98]⟩] = true := by decide
theorem kk7 : joinB [⟨#[97]⟩, ⟨#[98]⟩] = ⟨#[47, 97, 47, 98]⟩ := by decide
theorem kk8 : splitG ⟨#[47, 97, 47, 98]⟩ = some [⟨#[97]⟩, ⟨#[98]⟩] := by decide
theorem kk9 : splitG ⟨#[47, 97, 47]⟩ = none := by decide
theorem txtC_refl (x : ByteArray) : txtC x x = 0 := by unfold txtC; rw [klt_irrefl]; rfl
theorem pathC_refl : ∀ l : List ByteArray, pathC l l = 0
 | [] => rfl
 | x :: l => by unfold pathC; rw [if_pos (txtC_refl x)]; exact pathC_refl l
theorem kkA : pathC [⟨#[97]⟩, ⟨#[98]⟩] [⟨#[97]⟩, ⟨#[98]⟩] = 0 := pathC_refl _
theorem kkB : pathC [⟨#[98]⟩] [⟨#[97]⟩, ⟨#[98]⟩] = 1 := by
 unfold pathC
 rw [← cmpB_txt]
 decide
theorem kkC : okLabel (⟨#[109, 97, 105, 110]⟩ : ByteArray).data.toList = true := by decide
theorem two_small : ∀ x ∈ ([⟨#[97]⟩, ⟨#[98]⟩] : List ByteArray), x.size ≤ 9223372036854775807 := by
 intro x hx
 simp only [List.mem_cons, List.not_mem_nil, or_false] at hx
 rcases hx with rfl | rfl <;> decide
set_option maxRecDepth 100000 in
set_option maxHeartbeats 4000000 in
theorem known_05 (w : World) (hG : Glob w) : Calls Tryd.prog 6 #[] w fun e w' => e = .returned (.bool true) ∧ Below w.heap.size w w' := by
 have G := Lib.hid hG
 clear hG
 have HC : Hid (Chain [w] w) := Lib.hid (Chain.one w)
 go_enter Tryd.func6, Tryd.ntmps6
 go_wp2_with fail
 obtain ⟨c1, hc1⟩ : ∃ c, w.heap.size = c := ⟨_, rfl⟩
 try rw [hc1]
 obtain ⟨w1, hw1⟩ : ∃ X, allocs w [.cells #[.string ⟨#[97]⟩, .string ⟨#[98]⟩] 9] = X := ⟨_, rfl⟩
 rw [show w.alloc (.cells #[.string ⟨#[97]⟩, .string ⟨#[98]⟩] 9) = w1 from hw1]
 have hb : Below w.heap.size w w1 := by rw [← hw1]; exact allocs_below _ _
 have HA : Hid (w1.heap[c1]? = some (.cells #[.string ⟨#[97]⟩, .string ⟨#[98]⟩] 9 (0, 0))) := Lib.hid (by have := allocs_get [.cells #[.string ⟨#[97]⟩, .string ⟨#[98]⟩] 9] w 0 _ rfl; rw [hw1, hc1] at this; exact this)
 have Sc1 : Hid (w.heap.size = c1) := Lib.hid hc1
 replace HC := Lib.hid (HC.out.push hb)
 clear hb hw1 hc1
 refine (key_Join [⟨#[97]⟩, ⟨#[98]⟩] (some ⟨c1, 0, none⟩) 2 2 _ (cells_row HA.out) rfl two_small (G.out.below (HC.out.to w (by simp)))).mono ?_
 rintro e w2 ⟨rfl, hb⟩
 replace HC := Lib.hid (HC.out.push hb)
 clear hb
 rw [if_pos kk6, if_pos kk6, kk7]
 go_wp2_with fail
 refine (key_Split ⟨#[47, 97, 47, 98]⟩ _ (by decide) (G.out.below (HC.out.to w (by simp)))).mono ?_
 rintro e w3 ⟨v3, e3, rfl, ho, hb⟩
 replace HC := Lib.hid (HC.out.push hb)
 clear hb
 unfold SplOut at ho
 rw [kk8] at ho
 obtain ⟨rfl, a3, n3, rfl, hc3⟩ := ho
 have C3 := Lib.hid hc3
 clear hc3
 go_wp2_with fail
 refine (key_Split ⟨#[47, 97, 47]⟩ _ (by decide) (G.out.below (HC.out.to w (by simp)))).mono ?_
 rintro e w4 ⟨v4, e4, rfl, ho, hb⟩
 replace HC := Lib.hid (HC.out.push hb)
 clear hb
 unfold SplOut at ho
 rw [kk9] at ho
 obtain ⟨rfl, rfl⟩ := ho
 go_wp2_with fail
 refine (key_Unword1 _).mono ?_
 rintro e w5 ⟨rfl, hb⟩
 replace HC := Lib.hid (HC.out.push hb)
 clear hb
 go_wp2_with fail
 refine (key_Unword2 _).mono ?_
 rintro e w6 ⟨rfl, hb⟩
 replace HC := Lib.hid (HC.out.push hb)
 clear hb
 go_wp2_with fail
 refine (key_Key ⟨#[97]⟩ _ (by decide) (G.out.below (HC.out.to w (by simp)))).mono ?_
 rintro e w7 ⟨rfl, hb⟩
 replace HC := Lib.hid (HC.out.push hb)
 clear hb
 rw [kk1]
 go_wp2_with fail
 refine (key_Key ⟨#[97, 47, 98]⟩ _ (by decide) (G.out.below (HC.out.to w (by simp)))).mono ?_
 rintro e w8 ⟨rfl, hb⟩
 replace HC := Lib.hid (HC.out.push hb)
 clear hb
 rw [kk2]
 go_wp2_with fail
 refine (key_Key ⟨#[255]⟩ _ (by decide) (G.out.below (HC.out.to w (by simp)))).mono ?_
 rintro e w9 ⟨rfl, hb⟩
 replace HC := Lib.hid (HC.out.push hb)
 clear hb
 rw [kk3]
 go_wp2_with fail
 refine (key_Key ⟨#[195, 169]⟩ _ (by decide) (G.out.below (HC.out.to w (by simp)))).mono ?_
 rintro e w10 ⟨rfl, hb⟩
 replace HC := Lib.hid (HC.out.push hb)
 clear hb
 rw [kk4]
 go_wp2_with fail
 refine (num_05b 0 _).mono ?_
 rintro e w11 ⟨rfl, hb⟩
 replace HC := Lib.hid (HC.out.push hb)
 clear hb
 go_wp2_with fail
 obtain ⟨c12, hc12⟩ : ∃ c, w11.heap.size = c := ⟨_, rfl⟩
 try rw [hc12]
 obtain ⟨w12, hw12⟩ : ∃ X, allocs w11 [.cells #[.string ⟨#[97]⟩, .string ⟨#[98]⟩] 9] = X := ⟨_, rfl⟩
 rw [show w11.alloc (.cells #[.string ⟨#[97]⟩, .string ⟨#[98]⟩] 9) = w12 from hw12]
 have hb : Below w11.heap.size w11 w12 := by rw [← hw12]; exact allocs_below _ _
 have HB : Hid (w12.heap[c12]? = some (.cells #[.string ⟨#[97]⟩, .string ⟨#[98]⟩] 9 (0, 0))) := Lib.hid (by have := allocs_get [.cells #[.string ⟨#[97]⟩, .string ⟨#[98]⟩] 9] w11 0 _ rfl; rw [hw12, hc12] at this; exact this)
 have Sc12 : Hid (w11.heap.size = c12) := Lib.hid hc12
 replace HC := Lib.hid (HC.out.push hb)
 clear hb hw12 hc12
 refine (ref5_Same [⟨#[97]⟩, ⟨#[98]⟩] [⟨#[97]⟩, ⟨#[98]⟩] a3 (some ⟨c12, 0, none⟩) 2 2 n3 2 _ (C3.out.below (HC.out.to w3 (by simp)) rfl) (cells_row HB.out) rfl rfl (by decide) two_small two_small).mono ?_
 rintro e w13 ⟨rfl, hb⟩
 replace HC := Lib.hid (HC.out.push hb)
 clear hb
 rw [kkA, decide_eq_true rfl]
 go_wp2_with fail
 refine (num_05b 0 _).mono ?_
 rintro e w14 ⟨rfl, hb⟩
 replace HC := Lib.hid (HC.out.push hb)
 clear hb
 go_wp2_with fail
 refine (num_05b 4 _).mono ?_
 rintro e w15 ⟨rfl, hb⟩
 replace HC := Lib.hid (HC.out.push hb)
 clear hb
 go_wp2_with fail
 refine (num_05b 0 _).mono ?_
 rintro e w16 ⟨rfl, hb⟩
 replace HC := Lib.hid (HC.out.push hb)
 clear hb
 go_wp2_with fail
 refine (num_05b 4 _).mono ?_
 rintro e w17 ⟨rfl, hb⟩
 replace HC := Lib.hid (HC.out.push hb)
 clear hb
 go_wp2_with fail
 refine (key_Word1 _).mono ?_
 rintro e w18 ⟨rfl, hb⟩
 replace HC := Lib.hid (HC.out.push hb)
 clear hb
 go_wp2_with fail
 obtain ⟨c19, hc19⟩ : ∃ c, w18.heap.size = c := ⟨_, rfl⟩
 try rw [hc19]
 obtain ⟨w19, hw19⟩ : ∃ X, allocs w18 [.cells #[.string ⟨#[98]⟩] 9, .cells #[.string ⟨#[97]⟩, .string ⟨#[98]⟩] 9] = X := ⟨_, rfl⟩
 rw [show (w18.alloc (.cells #[.string ⟨#[98]⟩] 9)).alloc (.cells #[.string ⟨#[97]⟩, .string ⟨#[98]⟩] 9) = w19 from hw19]
 have hb : Below w18.heap.size w18 w19 := by rw [← hw19]; exact allocs_below _ _
 have HX : Hid (w19.heap[c19]? = some (.cells #[.string ⟨#[98]⟩] 9 (0, 0))) := Lib.hid (by have := allocs_get [.cells #[.string ⟨#[98]⟩] 9, .cells #[.string ⟨#[97]⟩, .string ⟨#[98]⟩] 9] w18 0 _ rfl; rw [hw19, hc19] at this; exact this)
 have HY : Hid (w19.heap[c19 + 1]? = some (.cells #[.string ⟨#[97]⟩, .string ⟨#[98]⟩] 9 (0, 0))) := Lib.hid (by have := allocs_get [.cells #[.string ⟨#[98]⟩] 9, .cells #[.string ⟨#[97]⟩, .string ⟨#[98]⟩] 9] w18 1 _ rfl; rw [hw19, hc19] at this; exact this)
 have Sc19 : Hid (w18.heap.size = c19) := Lib.hid hc19
 replace HC := Lib.hid (HC.out.push hb)
 clear hb hw19 hc19
 refine (key_CmpPath [⟨#[98]⟩] [⟨#[97]⟩, ⟨#[98]⟩] (some ⟨c19, 0, none⟩) (some ⟨c19 + 1, 0, none⟩) 1 2 1 2 _ (cells_row HX.out) (cells_row HY.out) rfl rfl (by decide) (fun x hx => two_small x (List.mem_cons_of_mem _ hx)) two_small).mono ?_
 rintro e w20 ⟨rfl, hb⟩
 replace HC := Lib.hid (HC.out.push hb)
 clear hb
 rw [kkB]
 go_wp2_with fail
 refine (key_Label ⟨#[109, 97, 105, 110]⟩ _ (by decide)).mono ?_
 rintro e w21 ⟨rfl, hb⟩
 replace HC := Lib.hid (HC.out.push hb)
 clear hb
 rw [kkC]
 go_wp2_with fail
 go_ret
 exact ⟨rfl, (HC.out.to w (by simp))⟩
end Go.Proofs.YtkjchoamdibolaaDoor
namespace Go.Proofs.YtkjchoamdibolaaDoor
open Go.RowKit
theorem grow_keep {w w' : World} {b : Option Nat} {g : Nat} {o : Obj} (hgr : w.grownBy w' b) (hY : w.heap[g]? = some o) (hd : b ≠ some g) : w'.heap[g]? = some o :=
 (hgr.block g (Array.getElem?_eq_some_iff.1 hY).1 (fun e => hd e.symm)).trans hY
theorem cells_grown {w w' : World} {a : Option Addr} {vs : List Value} {g : Nat} (h : CellsAt w a vs) (hg : w.grownBy w' (some g)) (hne : ∀ ad, a = some ad → ad.block ≠ g) : CellsAt w' a vs := by
 intro i hi
 obtain ⟨b, off, rfl, hc⟩ := h i hi
 have hl := cell_lt hc
 refine ⟨b, off, rfl, ?_⟩
 rw [World.cell?_of_block (a := ⟨b, off + i, none⟩) (hg.block b hl (fun e => hne _ rfl (Option.some.inj e)))]
 exact hc
theorem grown_below {w w' : World} {B : Nat} {r : Option Nat} (h : Below B w w') (hB : w.heap.size ≤ B) : w.grownBy w' r := ⟨h.os, h.tape, h.output, h.size, fun k hk _ => h.block k (by omega)⟩
theorem grown_tr {A B C : World} {r : Option Nat} (h : A.grownBy B r) (k : B.grownBy C r) : A.grownBy C r :=
 ⟨k.os.trans h.os, k.tape.trans h.tape, k.output.trans h.output, Nat.le_trans h.size k.size, fun i hi he => (k.block i (Nat.lt_of_lt_of_le hi h.size) he).trans (h.block i hi he)⟩
theorem grown_set (w : World) (X o : Nat) (v : Value) : w.grownBy (w.setCell ⟨X, o, none⟩ v) (some X) := ⟨rfl, rfl, rfl, by simp [World.setCell], fun k hk hne => Below.heap_setCell _ _ _ _ (fun e => hne (by rw [e]))⟩
end Go.Proofs.YtkjchoamdibolaaDoor
