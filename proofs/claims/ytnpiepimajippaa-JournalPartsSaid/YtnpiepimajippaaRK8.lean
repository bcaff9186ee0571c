/- Words, contracts and walks that the proof stands on (OfA14 Range Range2 HeldW KeepE Round). -/
import Derived.Deep.RegionHeld3
import Derived.OneCell
import Derived.RangeFuncBound
import Derived.RangeFuncBox
import Derived.RangeFuncCalls
import Derived.RangeFuncFrom
import Derived.RangeFuncLeaves
import Derived.RangeFuncNested
import Derived.RangeFuncWrites
import Derived.Shelf.RegionOpen
import Derived.Test.YtnpiepimajippaaRK1
import Derived.Test.YtnpiepimajippaaRK4
import Derived.Test.YtnpiepimajippaaRK7
namespace Go.Proofs.Ytnpiepimajippaa
open Go.RowKit St Pm
theorem fits14 (s : ByteArray) (w : World) : Calls Try.prog 97 #[.string s] w fun e w' => e = .returned (.bool (decide (s.size ≤ 256))) ∧ w = w' := by
 go_enter Try.func97, Try.ntmps97
 go_wp2
 go_ret
 exact ⟨congrArg (fun b => Ending.returned (.bool b)) (by simp; omega), rfl⟩
theorem ins_le14 (k v : ByteArray) : ∀ l : List (ByteArray × ByteArray), (ins k v l).length ≤ l.length + 1
 | [] => by simp [ins]
 | (k0, v0) :: l => by
   have ih := ins_le14 k v l
   unfold ins
   split
   · simp
   · split
     · simp; omega
     · simp
def OfOut14 (l : List Ev) (w : World) (e : Ending) (w' : World) : Prop :=
 if mayV l = true then ∃ t : Tr ByteArray, e = .returned (.tuple #[.agg #[.pointer (pa t)], .int .i64 0]) ∧ AtS w' t ∧ Bal t ∧ items t = putF l ∧ (∀ b ∈ blocks t, w.heap.size ≤ b) ∧ sz t ≤ l.length ∧ Below w.heap.size w w'
 else e = .returned (.tuple #[.agg #[.pointer none], .int .i64 2]) ∧ Below w.heap.size w w'
theorem mp_one (p : Option Addr) : (#[.pointer p] : Array Value).all (·.oneCell') = true := by simp [Value.oneCell']
set_option maxRecDepth 100000 in
set_option maxHeartbeats 4000000 in
theorem of14 (l : List Ev) (a : Option Addr) (n c : Nat) (w : World) (hl : CellsAt w a (elsV l)) (hn : n = l.length) (hb : n ≤ 100000) (hsz : ∀ e ∈ l, e.1.l.size ≤ 9223372036854775807) :
   Calls Try.prog 25 #[.slice a n c] w (OfOut14 l w) := by
 have HL := Lib.hid hl
 have HSZ := Lib.hid hsz
 have HN := Lib.hid hn
 have OUT1 : Hid (∀ t e w', mayV l = true → e = .returned (.tuple #[.agg #[.pointer (pa t)], .int .i64 0]) → AtS w' t → Bal t → items t = putF l → (∀ b ∈ blocks t, w.heap.size ≤ b) → sz t ≤ l.length → Below w.heap.size w w' → OfOut14 l w e w') := Lib.hid (fun t e w' h h1 h2 h3 h4 h5 h6 h7 => by unfold OfOut14; rw [if_pos h]; exact ⟨t, h1, h2, h3, h4, h5, h6, h7⟩)
 have OUT2 : Hid (∀ e w', mayV l = false → e = .returned (.tuple #[.agg #[.pointer none], .int .i64 2]) → Below w.heap.size w w' → OfOut14 l w e w') := Lib.hid (fun e w' h h1 h2 => by unfold OfOut14; rw [if_neg (by rw [h]; simp)]; exact ⟨h1, h2⟩)
 obtain ⟨z, hz⟩ : ∃ z, w.heap.size = z := ⟨_, rfl⟩
 rw [hz] at OUT1 OUT2
 have x0 := heap_alloc_new w (.cells #[.pointer none] 27)
 have x1 := heap_alloc_new (w.alloc (.cells #[.pointer none] 27)) (.cells #[.pointer none] 27)
 have x0 := boxStays x0 (below_new (w.alloc (.cells #[.pointer none] 27)) (.cells #[.pointer none] 27))
 rw [World.size_alloc] at x1
 have hb0 : Below w.heap.size w ((w.alloc (.cells #[.pointer none] 27)).alloc (.cells #[.pointer none] 27)) := ((Below.refl _ w).alloc (Nat.le_refl _) _).alloc (by simp) _
 have hzz : z + 2 ≤ ((w.alloc (.cells #[.pointer none] 27)).alloc (.cells #[.pointer none] 27)).heap.size := by simp; omega
 rw [hz] at x0 x1 hb0
 clear hl hsz hn
 go_enter Try.func25, Try.ntmps25
 go_wp2_with fail
 generalize (w.alloc (.cells #[.pointer none] 27)).alloc (.cells #[.pointer none] 27) = W at *
 try rw [hz]
 have Z := Lib.hid hz
 clear hz
 go_loopw [13] (fun i wr => ∃ (k : Nat) (t : Tr ByteArray), k ≤ n ∧ i = .int .i64 (k : Int) ∧ Hid (mayV (l.take k) = true) ∧ Hid (items t = putF (l.take k)) ∧ Hid (Bal t) ∧ Hid (AtS wr t) ∧ Hid (∀ b ∈ blocks t, z ≤ b) ∧ Hid (sz t ≤ k) ∧ Hid (wr.heap[z]? = some (.cells #[.pointer none] 27 (0, 0))) ∧ Hid (wr.heap[z + 1]? = some (.cells #[.pointer (pa t)] 27 (0, 0))) ∧ Hid (Below z w wr)) (fun i _ => n - (intOf i).toNat)
 case atStart => exact ⟨0, .nil, Nat.zero_le _, rfl, Lib.hid (by rw [List.take_zero]; exact mayV_nil), Lib.hid rfl, Lib.hid trivial, Lib.hid trivial, Lib.hid (fun b hb => by cases hb), Lib.hid (Nat.le_refl _), Lib.hid x0, Lib.hid x1, Lib.hid hb0⟩
 clear x0 x1 hb0 hzz
 case round =>
   obtain ⟨k, t, hk, rfl, HM, HI, HBal, HAt, HBl, HSz, X0, X1, HB⟩ := hrel
   by_cases hlt : k < n
   · have hk1 : k < l.length := by have := HN.out; omega
     have GB : Hid ((okV l[k] = false ∨ ∃ y ∈ l.take k, y.1 = l[k].1) → mayV l = false) := Lib.hid (fun h => mayV_bad (k := k + 1) (by
       cases e : mayV (l.take (k + 1)) with
       | false => rfl
       | true =>
         obtain ⟨_, h2, h3⟩ := (mayV_next hk1).1 e
         rcases h with h | ⟨y, hy, h⟩
         · rw [h2] at h; cases h
         · exact absurd h (h3 y hy)))
     have GS : Hid (okV l[k] = true → (∀ y ∈ l.take k, y.1 ≠ l[k].1) → mayV (l.take (k + 1)) = true) := Lib.hid (fun h2 h3 => (mayV_next hk1).2 ⟨HM.out, h2, h3⟩)
     have GP : Hid (putF (l.take (k + 1)) = ins (keyB l[k].1.st) l[k].2 (putF (l.take k))) := Lib.hid (by rw [List.take_succ_eq_append_getElem hk1, putF_snoc])
     have HZX : Hid (l[k].1.l.size ≤ 9223372036854775807) := Lib.hid (HSZ.out _ (List.getElem_mem hk1))
     obtain ⟨ba, oa, rfl, ca⟩ := els_get (HL.out.below HB.out Z.out.symm) k hk1
     have HSR := Lib.hid (putF_srt HM.out)
     have KIN : Hid (l[k].1.ok = true → ((∃ p ∈ putF (l.take k), p.1 = keyB l[k].1.st) ↔ ∃ y ∈ l.take k, y.1 = l[k].1)) := Lib.hid (fun h => key_in HM.out h)
     generalize l[k] = x at *
     have OKX : Hid (okV x = (x.1.ok && decide (x.2.size ≤ 256))) := Lib.hid rfl
     obtain ⟨p0, p1, p2, p3, p4, p5⟩ := ca
     have hki : (k : Int) < (n : Int) := by omega
     go_upto_region 5 with (fail)
     have hbE := below_new wr (.cells #[.int .i64 x.1.g, .int .i64 x.1.r, .string x.1.l, .int .i64 x.1.n, .int .i64 x.1.i, .string x.2] 47)
     have xE := heap_alloc_new wr (.cells #[.int .i64 x.1.g, .int .i64 x.1.r, .string x.1.l, .int .i64 x.1.n, .int .i64 x.1.i, .string x.2] 47)
     generalize wr.alloc (.cells #[.int .i64 x.1.g, .int .i64 x.1.r, .string x.1.l, .int .i64 x.1.n, .int .i64 x.1.i, .string x.2] 47) = w1 at *
     obtain ⟨bE, hbE'⟩ : ∃ b, wr.heap.size = b := ⟨_, rfl⟩
     rw [hbE'] at xE
     rw [hbE']
     have HB1 := Lib.hid (HB.out.trans (hbE.mono (by have := (Array.getElem?_eq_some_iff.1 X0.out).1; omega)))
     have X01 := Lib.hid (boxStays X0.out hbE)
     have X11 := Lib.hid (boxStays X1.out hbE)
     have A1 := Lib.hid (HAt.out.below hbE rfl)
     have XE1 := Lib.hid xE
     clear hbE xE hbE' p0 p1 p2 p3 p4 p5 X0 X1 HAt HB
     have c0 := cell_of_row _ _ 0 _ _ _ XE1.out
     have c1 := cell_of_row _ _ 1 _ _ _ XE1.out
     have c2 := cell_of_row _ _ 2 _ _ _ XE1.out
     have c3 := cell_of_row _ _ 3 _ _ _ XE1.out
     have c4 := cell_of_row _ _ 4 _ _ _ XE1.out
     go_wp2_with fail
     refine (stp_Key x.1 w1 HZX.out).mono ?_
     rintro e w2 ⟨he, hb2⟩
     have HB2 := Lib.hid (HB1.out.trans (hb2.mono (by have := (Array.getElem?_eq_some_iff.1 X01.out).1; omega)))
     have X02 := Lib.hid (boxStays X01.out hb2)
     have X12 := Lib.hid (boxStays X11.out hb2)
     have A2 := Lib.hid (A1.out.below hb2 rfl)
     have XE2 := Lib.hid (boxStays XE1.out hb2)
     clear hb2 c0 c1 c2 c3 c4 X01 X11 A1 XE1 HB1
     have hzs : z < w2.heap.size := (Array.getElem?_eq_some_iff.1 X02.out).1
     have m0 := cell_of_one X12.out
     cases hok : x.1.ok with
     | false =>
       rw [hok, if_neg (by simp)] at he
       subst he
       have hbad := Lib.hid (GB.out (.inl (by rw [OKX.out, hok]; rfl)))
       go_wp2_with fail
       refine (pm_MGetS t _ w2 A2.out).mono ?_
       rintro e w3 ⟨rfl, hb3⟩
       have HB3 := Lib.hid (HB2.out.trans (hb3.mono (by omega)))
       have X03 := Lib.hid (boxStays X02.out hb3)
       clear hb3 m0
       have f0 := frozen_of_row _ z 0 _ _ X03.out
       have k0 := cell_of_one X03.out
       go_wp2_with fail
       have k1 := cell_of_one (heap_setCell_same w3 z 0 _ _ (.pointer none) X03.out)
       refine bodyPost_ret (v := .tuple #[.agg #[.pointer none], .int .i64 2]) (by simp [results, Try.results25, go_sem, k1]) rfl ?_
       exact OUT2.out _ _ hbad.out rfl (HB3.out.setCell (p := ⟨z, 0, none⟩) (Nat.le_refl _) _)
     | true =>
       rw [hok, if_pos rfl] at he
       subst he
       have KI := Lib.hid (KIN.out hok)
       obtain ⟨kb, hkb⟩ : ∃ b, keyB x.1.st = b := ⟨_, rfl⟩
       rw [hkb] at KI GP ⊢
       go_wp2_with fail
       refine (pm_MGetS t kb w2 A2.out).mono ?_
       rintro e w3 ⟨rfl, hb3⟩
       have HB3 := Lib.hid (HB2.out.trans (hb3.mono (by omega)))
       have X03 := Lib.hid (boxStays X02.out hb3)
       have X13 := Lib.hid (boxStays X12.out hb3)
       have A3 := Lib.hid (A2.out.below hb3 rfl)
       have XE3 := Lib.hid (boxStays XE2.out hb3)
       clear hb3 m0
       cases hsk : seek kb t with
       | node b' l' k' v' r' =>
         have hbad := Lib.hid (GB.out (.inr ((KI.out).1 (by rw [← HI.out]; obtain ⟨e1, e2⟩ := seek_some hsk; exact ⟨_, e2, rfl⟩))))
         have hi : isNS (.node b' l' k' v' r' : Tr ByteArray) = true := rfl
         clear hsk
         have f0 := frozen_of_row _ z 0 _ _ X03.out
         have k0 := cell_of_one X03.out
         go_wp2_with fail
         have k1 := cell_of_one (heap_setCell_same w3 z 0 _ _ (.pointer none) X03.out)
         refine bodyPost_ret (v := .tuple #[.agg #[.pointer none], .int .i64 2]) (by simp [results, Try.results25, go_sem, k1]) rfl ?_
         exact OUT2.out _ _ hbad.out rfl (HB3.out.setCell (p := ⟨z, 0, none⟩) (Nat.le_refl _) _)
       | nil =>
         have hi : isNS (.nil : Tr ByteArray) = false := rfl
         have hno : Hid (∀ y ∈ l.take k, y.1 ≠ x.1) := Lib.hid (fun y hy e => by
           obtain ⟨p, hp, e2⟩ := (KI.out).2 ⟨y, hy, e⟩
           rw [← HI.out] at hp
           exact seek_none (by rw [HI.out]; exact HSR.out) hsk p hp e2)
         clear hsk
         have c5 := cell_of_row _ _ 5 _ _ _ XE3.out
         go_wp2_with fail
         refine (fits14 x.2 _).mono ?_
         rintro e w4 ⟨rfl, rfl⟩
         by_cases hfit : x.2.size ≤ 256
         · have hd : decide (x.2.size ≤ 256) = true := decide_eq_true hfit
           have HM2 := Lib.hid (GS.out (by rw [OKX.out, hok, hd]; rfl) hno.out)
           have m1 := cell_of_one X13.out
           go_wp2_with fail
           refine (pm_MPutS t kb x.2 z w3 (by have := (Array.getElem?_eq_some_iff.1 X03.out).1; omega) A3.out (by have := HSz.out; omega)).mono ?_
           rintro e w5 ⟨t', hP, rfl, hA5, hb5⟩
           have HB5 := Lib.hid (HB3.out.trans (hb5.mono (by have := (Array.getElem?_eq_some_iff.1 X03.out).1; omega)))
           have X05 := Lib.hid (boxStays X03.out hb5)
           have X15 := Lib.hid (boxStays X13.out hb5)
           have A5 := Lib.hid hA5
           have HI2 : Hid (items t' = putF (l.take (k + 1))) := Lib.hid (by rw [GP.out, ← HI.out]; exact hP.items (by rw [HI.out]; exact HSR.out))
           have HBal2 := Lib.hid (hP.bal HBal.out).1
           have HBl2 : Hid (∀ b ∈ blocks t', z ≤ b) := Lib.hid (fun b hb => (put_blocks hP b hb).elim id (HBl.out b))
           have HSz2 : Hid (sz t' ≤ k + 1) := Lib.hid (by
             have h1 := ins_le14 kb x.2 (items t)
             rw [← sz_items, HI2.out, GP.out, ← HI.out]
             have h2 := HSz.out
             rw [← sz_items] at h2
             omega)
           clear hP hA5 hb5 m1 c5
           have f0 := frozen_of_row _ (z + 1) 0 _ _ X15.out
           have k0 := cell_of_one X15.out
           go_wp2_with fail
           have X16 := Lib.hid (heap_setCell_same w5 (z + 1) 0 _ _ (.pointer (pa t')) X15.out)
           have X06 : Hid ((w5.setCell ⟨z + 1, 0, none⟩ (.pointer (pa t'))).heap[z]? = some (.cells #[.pointer none] 27 (0, 0))) := Lib.hid ((Below.heap_setCell _ _ _ _ (by simp)).trans X05.out)
           have A6 := Lib.hid (A5.out.setBox X15.out (by decide) 0 (.pointer (pa t')))
           have HB6 := Lib.hid (HB5.out.setCell (p := ⟨z + 1, 0, none⟩) (by simp) (.pointer (pa t')))
           go_roundw
           case rel => exact ⟨k + 1, t', by omega, by go_num, HM2, HI2, HBal2, A6, HBl2, HSz2, X06, X16, HB6⟩
           case measure => simp [intOf]; omega
         · have hd : decide (x.2.size ≤ 256) = false := decide_eq_false hfit
           have hbad := Lib.hid (GB.out (.inl (by rw [OKX.out, hd]; simp)))
           have f0 := frozen_of_row _ z 0 _ _ X03.out
           have k0 := cell_of_one X03.out
           go_wp2_with fail
           have k1 := cell_of_one (heap_setCell_same w3 z 0 _ _ (.pointer none) X03.out)
           refine bodyPost_ret (v := .tuple #[.agg #[.pointer none], .int .i64 2]) (by simp [results, Try.results25, go_sem, k1]) rfl ?_
           exact OUT2.out _ _ hbad.out rfl (HB3.out.setCell (p := ⟨z, 0, none⟩) (Nat.le_refl _) _)
   · obtain rfl : k = n := by omega
     have HMF : Hid (mayV l = true) := Lib.hid (by have := HM.out; rw [HN.out, List.take_length] at this; exact this)
     have HIF : Hid (items t = putF l) := Lib.hid (by have := HI.out; rw [HN.out, List.take_length] at this; exact this)
     have f0 := frozen_of_row _ z 0 _ _ X0.out
     have k0 := cell_of_one X0.out
     have m0 := cell_of_one X1.out
     go_wp2_with fail
     have k1 := cell_of_one (heap_setCell_same wr z 0 _ _ (.pointer (pa t)) X0.out)
     refine bodyPost_ret (v := .tuple #[.agg #[.pointer (pa t)], .int .i64 0]) (by simp [results, Try.results25, go_sem, k1]) rfl ?_
     exact OUT1.out t _ _ HMF.out rfl (HAt.out.setBox X0.out (by decide) 0 _) HBal.out HIF.out HBl.out (by have := HSz.out; have := HN.out; omega) (HB.out.setCell (p := ⟨z, 0, none⟩) (Nat.le_refl _) _)
end Go.Proofs.Ytnpiepimajippaa
namespace Go.Proofs.Ytnpiepimajippaa
open Go.RowKit
theorem grown_of_below {w w' : World} (h : Below w.heap.size w w') (row : Option Nat) : w.grownBy w' row := ⟨h.os, h.tape, h.output, h.size, fun k hk _ => h.block k hk⟩
theorem ownFrom_to {β : Type} {B : Nat} {I : β → World → Prop} (h : OwnFrom B I) {s : β} {A A' : World} (hs : I s A) (hb : Below A.heap.size A A') : I s A' :=
 h s A A' none hs (grown_of_below hb none) (fun r e => by cases e)
variable {P : Program} {n : Nat}
end Go.Proofs.Ytnpiepimajippaa
namespace Go.Proofs.Ytnpiepimajippaa
open Go.RowKit
def Iter2 {α : Type} (n : Nat) (P : Program) (g : Nat) (lb : Array Value) (encs : α → Array Value) (Kp : World → World → Prop) (X : List α → α → World → Prop) (End : World → List α → World → World → Prop) (Sp : List α → Prop) (w : World) : Prop :=
 ∀ (l : Nat) (J Jx : List α → World → Prop) (W : World), Below w.heap.size w W → w.heap.size + 2 ≤ W.heap.size →
   OwnFrom W.heap.size J → OwnFrom W.heap.size Jx →
   (∀ pre x W1, J pre W1 → X pre x W1 → YieldAt Fence.wide (n - 1) P l (encs x) W1 fun e W' =>
     (e = .returned (.bool true) ∧ J (pre ++ [x]) W' ∧ Kp W1 W') ∨ (e = .returned (.bool false) ∧ Jx (pre ++ [x]) W' ∧ Kp W1 W')) →
   J [] W →
   CallsIn Fence.wide n P g (#[.func (.yield l) #[] #[]] ++ lb) W fun e W' => (∃ v, e = .returned v) ∧ ((∃ xs W2, J xs W2 ∧ End W xs W2 W') ∨ (∃ pre, Sp pre ∧ Jx pre W'))
def bodyPostR2 {α : Type} (B : Nat) (Kp : World → World → Prop) (I : List α → World → Prop) (Ix : Code → List α → World → Prop) (xs : List α) (W : World) : Exit → Act → World → Prop
 | .normal, _, W' => KeepsFrom B W W' ∧ Kp W W' ∧ I xs W'
 | .ret, _, W' => KeepsFrom B W W' ∧ Kp W W' ∧ Ix .ret xs W'
 | .exit id, _, W' => KeepsFrom B W W' ∧ Kp W W' ∧ Ix (.exit id) xs W'
 | .goto t, _, W' => KeepsFrom B W W' ∧ Kp W W' ∧ Ix (.goto t) xs W'
 | .panic _, _, _ => False
 | .outgrown, _, _ => False
variable {P : Program} {n : Nat}
theorem range_law2 {α : Type} {g : Operand} {ps : Array Tmp} {assign body : Code} {Q : Exit → Act → World → Prop} {a : Act} {w : World} {gf : Nat} {lb : Array Value}
   (hg : a.eval g = .func (.func gf) #[] lb) (eg : ∀ args w, (callFunc gf args).run P w = .ok (.enter gf args) w)
   {encs : α → Array Value} {Kp : World → World → Prop} {X : List α → α → World → Prop} {End : World → List α → World → World → Prop} {Sp : List α → Prop} (hseq : Iter2 (n - 1) P gf lb encs Kp X End Sp w)
   (h1 : 1 ≤ n) (hKt : ∀ {A B C : World}, Kp A B → Kp B C → Kp A C) (hKb : ∀ (W : World) (o o' : Obj), W.heap[w.heap.size + 1]? = some o → o.isCells = false → Kp W (W.putObj (w.heap.size + 1) o'))
   (hps : ∀ x, (encs x).size = ps.size) (hX : ∀ pre, OwnFrom w.heap.size (X pre)) (hEnd : ∀ W1, w.heap.size + 2 ≤ W1.heap.size → ∀ xs A B, End W1 xs A B → ∀ k o, k < w.heap.size + 2 → A.heap[k]? = some o → o.isCells = false → B.heap[k]? = some o)
   (I : List α → World → Prop) (Ix : Code → List α → World → Prop) (F : List α → World → Prop) (hI : OwnFrom w.heap.size I) (hIx : ∀ c, OwnFrom w.heap.size (Ix c)) (hF : OwnFrom w.heap.size F) (hIF : ∀ W1, w.heap.size + 2 ≤ W1.heap.size → ∀ xs A B, I xs A → End W1 xs A B → F xs B)
   (h0 : I [] w) (Y : List α → α → Act → World → Prop) (hY : ∀ x a', OwnFrom w.heap.size (fun pre => Y pre x a'))
   (hassign : ∀ (l : Nat) (pre : List α) (x : α) (W : World) (K : Act → World → Prop), I pre W → X pre x W → w.heap.size ≤ W.heap.size →
     (∀ a' W', KeepsFrom w.heap.size W W' → Kp W W' → w.heap.size ≤ W'.heap.size → Y pre x a' W' → K a' W') →
     assign.wpIn (Fence.wide.inRound l) (n - 1 - 1) P (Exit.then K (fun _ _ _ => False)) { tmps := (ps.zip (encs x)).foldl (fun t (p, v) => t.setIfInBounds p v) a.tmps, defers := [] } W)
   (hbody : ∀ (l : Nat) (pre : List α) (x : α) (a' : Act) (W : World), Y pre x a' W → w.heap.size ≤ W.heap.size → body.wpIn (Fence.wide.inRound l) (n - 1 - 1) P (bodyPostR2 w.heap.size Kp I Ix (pre ++ [x]) W) a' W)
   (hdone : ∀ (D : Nat) (xs : List α) (W : World), w.heap.size ≤ D → F xs W → W.heap[D]? = some (.deferred (some [])) → Q .normal { a with defers := { target := .collected D, args := #[] } :: a.defers } W)
   (hstop : ∀ (D : Nat) (c : Code) (pre : List α) (W : World), w.heap.size ≤ D → Sp pre → Ix c pre W → W.heap[D]? = some (.deferred (some [])) → c.wpIn Fence.wide n P Q { a with defers := { target := .collected D, args := #[] } :: a.defers } W) :
   (Code.rangeFunc g ps assign body).wpIn Fence.wide n P Q a w := by
 refine wpIn_rangeFunc fun fn hfn => ?_
 obtain ⟨rec, hrec⟩ : ∃ rec : LoopState → Option Code → Loop, rec = fun st pe => { state := st, pending := pe, fn, tmps := a.tmps, params := ps, assign, body, defers := w.heap.size } := ⟨_, rfl⟩
 obtain ⟨W1, hW1⟩ : ∃ W1, (w.alloc (.deferred (some []))).alloc (.loop (rec .ready none)) = W1 := ⟨_, rfl⟩
 have hb1 : Below w.heap.size w W1 := by
   rw [← hW1]; exact (below_new w _).alloc (by simp) _
 have hL1 : W1.heap[w.heap.size + 1]? = some (.loop (rec .ready none)) := by
   have h := World.alloc_heap_new (w.alloc (.deferred (some []))) (.loop (rec .ready none))
   rw [World.size_alloc, hW1] at h
   exact h
 have hK1 : W1.heap[w.heap.size]? = some (.deferred (some [])) := by
   rw [← hW1]; exact (Below.heap_alloc _ _ _ (by simp)).trans (World.alloc_heap_new w _)
 refine ⟨w.heap.size + 1, [{ target := .collected w.heap.size, args := #[] }], W1, { target := .fn (.func gf) lb, args := #[.func (.yield (w.heap.size + 1)) #[] #[]] }, W1, gf,
   #[.func (.yield (w.heap.size + 1)) #[] #[]] ++ lb, W1, ?_, ?_, ?_, ?_, fun _ => h1, ?_⟩
 · rw [← hW1, hrec]; exact run_enterLoop_outer _ _ _ _ _
 · simp only [resolve, hg]
   simp [go_sem]
 · intro f' _; trivial
 · simp [invoke, go_sem, eg]
 · have keepRec : ∀ {A B : World} {k : Nat} {o : Obj}, A.heap[k]? = some o → Below A.heap.size A B → B.heap[k]? = some o := fun hk hb => (hb.block _ (Array.getElem?_eq_some_iff.1 hk).1).trans hk
   have hsz1 : W1.heap.size = w.heap.size + 2 := by rw [← hW1]; simp
   have key : ∀ {A A' : World} {row : Option Nat}, A.grownBy A' row → (∀ r, row = some r → W1.heap.size ≤ r ∧ ∃ o : Obj, A.heap[r]? = some o ∧ o.isCells = false) → ∀ k o, A.heap[k]? = some o → k < W1.heap.size → A'.heap[k]? = some o := fun hg hr k o hk hlt => (hg.block k (Array.getElem?_eq_some_iff.1 hk).1 (fun e => by have := (hr k e.symm).1; omega)).trans hk
   have hJo : OwnFrom W1.heap.size (fun pre W => I pre W ∧ W.heap[w.heap.size + 1]? = some (.loop (rec .ready none)) ∧ W.heap[w.heap.size]? = some (.deferred (some []))) := by
     rintro s A A' row ⟨h1, h2, h3⟩ hg hr
     exact ⟨hI s A A' row h1 hg (fun r e => ⟨by have := (hr r e).1; omega, (hr r e).2⟩), key hg hr _ _ h2 (by omega), key hg hr _ _ h3 (by omega)⟩
   have hJxo : OwnFrom W1.heap.size (fun pre W => ∃ c, Ix c pre W ∧ W.heap[w.heap.size + 1]? = some (.loop (rec .done (some c))) ∧ W.heap[w.heap.size]? = some (.deferred (some []))) := by
     rintro s A A' row ⟨c, h1, h2, h3⟩ hg hr
     exact ⟨c, hIx c s A A' row h1 hg (fun r e => ⟨by have := (hr r e).1; omega, (hr r e).2⟩), key hg hr _ _ h2 (by omega), key hg hr _ _ h3 (by omega)⟩
   refine (hseq (w.heap.size + 1)
     (fun pre W => I pre W ∧ W.heap[w.heap.size + 1]? = some (.loop (rec .ready none)) ∧ W.heap[w.heap.size]? = some (.deferred (some [])))
     (fun pre W => ∃ c, Ix c pre W ∧ W.heap[w.heap.size + 1]? = some (.loop (rec .done (some c))) ∧ W.heap[w.heap.size]? = some (.deferred (some [])))
     W1 hb1 (by omega) hJo hJxo ?_ ⟨ownFrom_to hI h0 hb1, hL1, hK1⟩).mono ?_
   · rintro pre x W ⟨hi, hl, hk⟩ hx
     have hlt : w.heap.size + 1 < W.heap.size := (Array.getElem?_eq_some_iff.1 hl).1
     have hy := run_yield (P := P) (args := encs x) hl (by rw [hrec]; exact hps x)
     rw [hrec] at hy
     refine ⟨fn, _, assign, body, hy, roundIn_of_wpIn hfn (hassign _ pre x W _ hi hx (by omega) ?_)⟩
     intro a' Wa hkoa hkpa hsa hYa
     have hla := hkoa.same _ _ (by omega) hl rfl
     have hka := hkoa.same _ _ (by omega) hk rfl
     have hlta : w.heap.size + 1 < Wa.heap.size := (Array.getElem?_eq_some_iff.1 hla).1
     refine ⟨_, run_beginRound hla (by rw [hrec]), ?_⟩
     obtain ⟨W2, hW2⟩ : ∃ W2, Wa.putObj (w.heap.size + 1) (.loop { rec .ready none with state := .busy }) = W2 := ⟨_, rfl⟩
     have hl2 : W2.heap[w.heap.size + 1]? = some (.loop { rec .ready none with state := .busy }) := by rw [← hW2]; exact World.putObj_heap_same hlta
     have hk2 : W2.heap[w.heap.size]? = some (.deferred (some [])) := by rw [← hW2]; exact (World.putObj_heap_other (by omega)).trans hka
     have hw2 : Kp W W2 := by rw [← hW2]; exact hKt hkpa (hKb _ _ _ hla rfl)
     have hY2 : Y pre x a' W2 := by rw [← hW2]; exact (hY x a').putObj _ hYa (by omega) hla rfl
     have hs2 : w.heap.size ≤ W2.heap.size := by rw [← hW2, World.putObj_size]; omega
     rw [hW2]
     refine wpIn_mono (hbody _ pre x a' _ hY2 hs2) ?_
     have fin : ∀ (jump : Option Code) (W3 : World), KeepsFrom w.heap.size W2 W3 →
         (Instr.endRound (w.heap.size + 1) jump).run P W3 = .ok (.bool jump.isNone) (W3.putObj (w.heap.size + 1) (.loop (rec (if jump.isNone then .ready else .done) jump))) ∧
         W3.heap[w.heap.size + 1]? = some (.loop { rec .ready none with state := .busy }) ∧
         (W3.putObj (w.heap.size + 1) (.loop (rec (if jump.isNone then .ready else .done) jump))).heap[w.heap.size + 1]? = some (.loop (rec (if jump.isNone then .ready else .done) jump)) ∧
         (W3.putObj (w.heap.size + 1) (.loop (rec (if jump.isNone then .ready else .done) jump))).heap[w.heap.size]? = some (.deferred (some [])) := by
       intro jump W3 hk3
       have hl3 := hk3.same _ _ (by omega) hl2 rfl
       have h4 := run_endRound (P := P) jump hl3
       rw [hrec] at h4 ⊢
       rw [hrec] at hl3
       exact ⟨h4, hl3, World.putObj_heap_same (Array.getElem?_eq_some_iff.1 hl3).1, (World.putObj_heap_other (by omega)).trans (hk3.same _ _ (by omega) hk2 rfl)⟩
     rintro e a3 W3 hp
     cases e with
     | normal =>
       obtain ⟨hk3, hkp3, hi3⟩ := hp
       obtain ⟨hr, hl3, hl4, hk4⟩ := fin none W3 hk3
       exact ⟨_, _, hr, .inl ⟨rfl, ⟨hI.putObj _ hi3 (by omega) hl3 rfl, hl4, hk4⟩, hKt (hKt hw2 hkp3) (hKb _ _ _ hl3 rfl)⟩⟩
     | ret =>
       obtain ⟨hk3, hkp3, hi3⟩ := hp
       obtain ⟨hr, hl3, hl4, hk4⟩ := fin (some .ret) W3 hk3
       exact ⟨_, _, hr, .inr ⟨rfl, ⟨.ret, (hIx _).putObj _ hi3 (by omega) hl3 rfl, hl4, hk4⟩, hKt (hKt hw2 hkp3) (hKb _ _ _ hl3 rfl)⟩⟩
     | exit id =>
       obtain ⟨hk3, hkp3, hi3⟩ := hp
       obtain ⟨hr, hl3, hl4, hk4⟩ := fin (some (.exit id)) W3 hk3
       exact ⟨_, _, hr, .inr ⟨rfl, ⟨.exit id, (hIx _).putObj _ hi3 (by omega) hl3 rfl, hl4, hk4⟩, hKt (hKt hw2 hkp3) (hKb _ _ _ hl3 rfl)⟩⟩
     | goto t =>
       obtain ⟨hk3, hkp3, hi3⟩ := hp
       obtain ⟨hr, hl3, hl4, hk4⟩ := fin (some (.goto t)) W3 hk3
       exact ⟨_, _, hr, .inr ⟨rfl, ⟨.goto t, (hIx _).putObj _ hi3 (by omega) hl3 rfl, hl4, hk4⟩, hKt (hKt hw2 hkp3) (hKb _ _ _ hl3 rfl)⟩⟩
     | panic ch => exact hp.elim
     | outgrown => exact hp.elim
   · rintro e W2 ⟨⟨v, rfl⟩, (⟨xs, W3, ⟨hi, hl, hk⟩, he⟩ | ⟨pre, hSp, c, hi, hl, hk⟩)⟩
     · have ho := hEnd _ (by omega) _ _ _ he
       have hl3 := ho _ _ (by omega) hl rfl
       have hk3 := ho _ _ (by omega) hk rfl
       exact ⟨none, _, by have h4 := run_endLoop (P := P) hl3 (by rw [hrec]; simp); rw [hrec] at h4; exact h4, hdone _ xs _ (Nat.le_refl _) (hF.putObj _ (hIF _ (by omega) _ _ _ hi he) (by omega) hl3 rfl) ((World.putObj_heap_other (by omega)).trans hk3)⟩
     · exact ⟨some c, _, by have h4 := run_endLoop (P := P) hl (by rw [hrec]; simp); rw [hrec] at h4; exact h4, hstop _ c pre _ (Nat.le_refl _) hSp ((hIx c).putObj _ hi (by omega) hl rfl) ((World.putObj_heap_other (by omega)).trans hk)⟩
end Go.Proofs.Ytnpiepimajippaa
namespace Go.Proofs.Ytnpiepimajippaa
open Go.RowKit
section
variable {P : Program} {n : Nat} {md : Region.Mode} {ops : Array Oper} {Q : Exit → Act → World → Prop} {S : World → Prop}
def stepW (n : Nat) (P : Program) (ops : Array Oper) (Q : Exit → Act → World → Prop) (i : Nat) (K : Act → World → Prop) (a : Act) (w : World) : Prop := wpOpIn Fence.wide n P ops Q i K a w
def anyW (n : Nat) (P : Program) (md : Region.Mode) (ops : Array Oper) (Q : Exit → Act → World → Prop) (S : World → Prop) : Nat → Array Bool → Act → World → Prop
 | 0, listed, a, w => Region.ready md ops listed = [] ∧ Q .normal a w
 | fuel + 1, listed, a, w => (Region.ready md ops listed = [] → Q .normal a w) ∧ ∀ i ∈ Region.ready md ops listed, stepW n P ops Q i (fun a' w' => S w' ∧ anyW n P md ops Q S fuel (listed.setIfInBounds i true) a' w') a w
theorem anyW_in : ∀ (fuel : Nat) (listed : Array Bool) (a : Act) (w : World), anyW n P md ops Q S fuel listed a w → wpAnyIn Fence.wide n P md ops Q fuel listed a w
 | 0, _, _, _, h => h
 | fuel + 1, _, _, _, h => ⟨h.1, fun i hi => wpOpIn_mono (fun a' w' h' => anyW_in fuel _ a' w' h'.2) (h.2 i hi)⟩
def OnlyE (Q : Exit → Act → World → Prop) : Exit → Act → World → Prop
 | .normal, a, w => Q .normal a w
 | _, _, _ => False
theorem OnlyE.normal {a : Act} {w : World} (h : Q .normal a w) : OnlyE Q .normal a w := h
theorem region_wide {id : Nat} {a : Act} {w : World} (hm : P.follows .mixedOrders = true) (hS : S w.drew)
   (h : S w.drew → anyW n P .any ops (OnlyE Q) S ops.size (Array.replicate ops.size false) a w.drew) : (Code.region id ops true).wpIn Fence.wide n P Q a w :=
 wpIn_mono (Q := OnlyE Q) (wpIn_region_any hm (anyW_in _ _ _ _ (h hS))) (fun e a w h => by cases e <;> first | exact h | exact h.elim)
theorem stepW_yields {i : Nat} {o : Oper} {v : Value} {a : Act} {K : Act → World → Prop} {w : World} (hi : ops[i]? = some o) (hy : YieldsIf P ops S o v a) (hS : S w) (h : K (a.put o.dst v) w) : stepW n P ops Q i K a w := by
 unfold stepW wpOpIn
 simp only [hi]
 rcases hy with ⟨hw, hv⟩ | ⟨hw, rfl⟩
 · rw [if_pos hw]
   refine ⟨fun f _ => trivial, ?_⟩
   rw [show Fence.wide.round = none from rfl, Oper.semAt_none, hv w hS]
   exact h
 · rw [if_neg (by rw [hw]; exact Bool.false_ne_true)]
   exact ⟨fun f _ => trivial, h⟩
theorem stepW_other {j : Nat} {oi oj : Oper} {v : Value} {K : Act → World → Prop} {a : Act} {w : World} (hj : ops[j]? = some oj) (hap : oi.apart ops oj = true)
   (hsi : ∀ cs b, oi.op ≠ .select cs b) (hsj : ∀ cs b, oj.op ≠ .select cs b) (hQ : ∀ c a w, Q (.panic c) (a.put oi.dst v) w → Q (.panic c) a w)
   (hy : YieldsIf P ops S oi v a) (h : stepW n P ops Q j K (a.put oi.dst v) w) : stepW n P ops Q j (fun a' w' => YieldsIf P ops S oi v a' ∧ K (a'.put oi.dst v) w') a w := by
 obtain ⟨d1, d2, d3⟩ := Oper.apart_spec hap
 have put : ∀ (b : Act) (u : Value), YieldsIf P ops S oi v b → YieldsIf P ops S oi v (b.put oj.dst u) := fun b u hb => hb.of_same (execOp_put oi hsi b oj.dst u d3) (wanted_put oi b oj.dst u d3)
 have def' : ∀ d, YieldsIf P ops S oi v { a with defers := d :: a.defers } := fun d => hy.of_same rfl rfl
 have both : ∀ (b : Act) (u : Value) (w' : World), YieldsIf P ops S oi v b → K ((b.put oi.dst v).put oj.dst u) w' → YieldsIf P ops S oi v (b.put oj.dst u) ∧ K ((b.put oj.dst u).put oi.dst v) w' := fun b u w' hb hk => ⟨put b u hb, by rw [← Act.put_comm b v u d2]; exact hk⟩
 unfold stepW wpOpIn at h ⊢
 simp only [hj] at h ⊢
 rw [wanted_put oj a oi.dst v d1] at h
 by_cases hw : Region.wanted oj (yielded ops a.tmps) = true
 · rw [if_pos hw] at h ⊢
   refine ⟨fun f _ => trivial, ?_⟩
   have h2 := h.2
   rw [show Fence.wide.round = none from rfl, Oper.semAt_none, execOp_put oj hsj a oi.dst v d1] at h2
   rw [show Fence.wide.round = none from rfl, Oper.semAt_none]
   generalize (execOp a.eval oj).run P w = r at h2 ⊢
   match r, h2 with
   | .ok (.value u) w', h2 => exact both a u w' hy h2
   | .ok .skip w', h2 => exact both a undef w' hy h2
   | .ok (.defer d) w', h2 =>
     refine both { a with defers := d :: a.defers } undef w' (def' d) ?_
     rw [← Act.put_defers]
     exact h2
   | .ok (.enter f args) w', h2 =>
     refine ⟨h2.1, CallsIn.mono h2.2 fun e w'' he => ?_⟩
     match e, he with
     | .returned u, he => exact both a u w'' hy he
     | .panicked c, he => exact hQ _ _ _ he
     | .outgrown, he => exact he
   | .ok (.row row args) w', h2 => exact ⟨h2.1, RowsIn.mono h2.2 fun u w'' he => both a u w'' hy he⟩
   | .ok (.round l f tmps assign body) w', h2 =>
     refine ⟨h2.1, RoundIn.mono h2.2 fun e w'' he => ?_⟩
     match e, he with
     | .returned u, he => exact both a u w'' hy he
     | .panicked c, he => exact hQ _ _ _ he
     | .outgrown, he => exact he
   | .halt (.panic u) w', h2 => exact hQ _ _ _ h2
 · rw [if_neg hw] at h ⊢
   exact ⟨fun f _ => trivial, both a undef w hy h.2⟩
theorem anyW_take {i : Nat} {oi : Oper} {v : Value} (hi : ops[i]? = some oi) (hs : Region.noSelect ops = true) (hQ : ∀ c a w, Q (.panic c) (a.put oi.dst v) w → Q (.panic c) a w) :
   ∀ {fuel : Nat} {listed : Array Bool} {a : Act} {w : World}, Region.free md ops listed i = true → (Region.ready md ops listed).contains i = true → YieldsIf P ops S oi v a → S w →
     anyW n P md ops Q S fuel (listed.setIfInBounds i true) (a.put oi.dst v) w → anyW n P md ops Q S (fuel + 1) listed a w := by
 have hsel := Region.noSelect_spec hs
 have main : ∀ (fuel : Nat) (listed : Array Bool) (a : Act) (w : World), (∀ j oj, ops[j]? = some oj → j ≠ i → listed.getD j true = false → (∀ e ∈ oj.after, Region.binds md e = true → e.on ≠ i) → oi.apart ops oj = true) →
     i ∈ Region.ready md ops listed → YieldsIf P ops S oi v a → S w → anyW n P md ops Q S fuel (listed.setIfInBounds i true) (a.put oi.dst v) w → anyW n P md ops Q S (fuel + 1) listed a w := by
   intro fuel
   induction fuel with
   | zero =>
     intro listed a w _ hr hy hS H
     refine ⟨fun h => absurd hr (by rw [h]; exact List.not_mem_nil), fun j hj => ?_⟩
     by_cases e : j = i
     · subst e; exact stepW_yields hi hy hS ⟨hS, H⟩
     · have := ready_mono hj e
       rw [H.1] at this
       exact absurd this List.not_mem_nil
   | succ fuel ih =>
     intro listed a w hf hr hy hS H
     refine ⟨fun h => absurd hr (by rw [h]; exact List.not_mem_nil), fun j hj => ?_⟩
     by_cases e : j = i
     · subst e; exact stepW_yields hi hy hS ⟨hS, H⟩
     · obtain ⟨hun, oj, hoj, hall⟩ := mem_ready.1 hj
       have hun0 := (mem_ready.1 hr).1
       have hno : ∀ e ∈ oj.after, Region.binds md e = true → e.on ≠ i := by
         intro e he hb hei
         have h1 := hall e he hb
         rw [hei] at h1
         rcases Nat.lt_or_ge i listed.size with hlt | hge
         · simp [hlt] at hun0 h1; rw [hun0] at h1; cases h1
         · simp [Array.getElem?_eq_none hge] at h1
       have hstep := stepW_other hoj (hf j oj hoj e hun hno) (fun cs b => hsel i oi cs b hi) (fun cs b => hsel j oj cs b hoj) hQ hy (H.2 j (ready_mono hj e))
       refine wpOpIn_mono (fun a' w' h3 => ⟨h3.2.1, ih (listed.setIfInBounds j true) a' w' ?_ (ready_mono hr (Ne.symm e)) h3.1 h3.2.1 ?_⟩) hstep
       · intro k ok hk hki hunk hnok
         refine hf k ok hk hki ?_ hnok
         by_cases hjk : j = k
         · subst hjk; exact hun
         · rw [getD_set_ne true hjk] at hunk; exact hunk
       · rw [Array.setIfInBounds_comm _ _ e]
         exact h3.2.2
 intro fuel listed a w hf hr
 exact main fuel listed a w (Region.free_spec hi hf) (by simpa using hr)
theorem anyW_done {listed : Array Bool} {a : Act} {w : World} (hr : Region.ready md ops listed = []) (h : Q .normal a w) : ∀ fuel, anyW n P md ops Q S fuel listed a w
 | 0 => ⟨hr, h⟩
 | _ + 1 => ⟨fun _ => h, by rw [hr]; simp⟩
theorem anyW_one {i : Nat} {o : Oper} {fuel : Nat} {listed : Array Bool} {a : Act} {w : World} (hr : Region.ready md ops listed = [i]) (ho : ops[i]? = some o) (hw : Region.wanted o (yielded ops a.tmps) = true)
   (h : ∀ K : Act → World → Prop, Shut (∀ a w, S w → anyW n P md ops Q S fuel (listed.setIfInBounds i true) a w → K a w) → Oper.wpIn Fence.wide n P o a w K Q) : anyW n P md ops Q S (fuel + 1) listed a w := by
 refine ⟨fun h0 => (by rw [hr] at h0; cases h0), fun j hj => ?_⟩
 rw [hr] at hj
 obtain rfl := List.mem_singleton.1 hj
 unfold stepW wpOpIn
 simp only [ho]
 rw [if_pos hw]
 exact h _ (fun a w hS hW => ⟨hS, hW⟩)
theorem op_wide {o : Oper} {a : Act} {w : World} {K : Act → World → Prop} (h : o.wp P a w K Q) : o.wpIn Fence.wide n P a w K Q := by
 unfold Oper.wpIn
 refine ⟨fun f _ => trivial, ?_⟩
 rw [show Fence.wide.round = none from rfl, Oper.semAt_none]
 unfold Oper.wp at h
 generalize (execOp a.eval o).run P w = r at *
 have hdep : Fence.wide.depth.isSome = true → 1 ≤ n := fun hh => by cases (show false = true from hh)
 match r, h with
 | .ok (.value v) w', h => exact h
 | .ok .skip w', h => exact h
 | .ok (.defer d) w', h => exact h
 | .ok (.enter f args) w', h => exact ⟨hdep, callsIn_wide.2 h⟩
 | .ok (.row row args) w', h => exact ⟨hdep, fun c cs _ => let ⟨v, w', r, s⟩ := h c cs; ⟨v, w', r, stepsIn_wide.2 s⟩⟩
 | .halt (.panic v) w', h => exact h
end
end Go.Proofs.Ytnpiepimajippaa
namespace Go.Proofs.Ytnpiepimajippaa
open Go.RowKit
structure KeepE (M : Nat) (S : Nat → Prop) (Ex : TypeId → Prop) (A B : World) : Prop where
 os : B.os = A.os
 tape : B.tape = A.tape
 output : B.output = A.output
 size : A.heap.size ≤ B.heap.size
 block : ∀ k, S k → B.heap[k]? = A.heap[k]?
 rest : ∀ k o, M ≤ k → A.heap[k]? = some o → (∀ c t fr, o = .cells c t fr → ¬ Ex t) → B.heap[k]? = some o
theorem KeepE.trans {M : Nat} {S : Nat → Prop} {Ex : TypeId → Prop} {A B C : World} (h : KeepE M S Ex A B) (k : KeepE M S Ex B C) : KeepE M S Ex A C :=
 ⟨k.os.trans h.os, k.tape.trans h.tape, k.output.trans h.output, Nat.le_trans h.size k.size, fun i hi => (k.block i hi).trans (h.block i hi), fun i o hi ho ht => k.rest i o hi (h.rest i o hi ho ht) ht⟩
theorem KeepE.below {M : Nat} {S : Nat → Prop} {Ex : TypeId → Prop} {A B : World} (h : Below A.heap.size A B) (hS : ∀ k, S k → k < A.heap.size) : KeepE M S Ex A B :=
 ⟨h.os, h.tape, h.output, h.size, fun k hk => h.block k (hS k hk), fun k o _ ho _ => (h.block k (Array.getElem?_eq_some_iff.1 ho).1).trans ho⟩
theorem KeepE.refl {M : Nat} {S : Nat → Prop} {Ex : TypeId → Prop} (A : World) : KeepE M S Ex A A := ⟨rfl, rfl, rfl, Nat.le_refl _, fun _ _ => rfl, fun _ _ _ h _ => h⟩
theorem KeepE.put {M : Nat} {S : Nat → Prop} {Ex : TypeId → Prop} (W : World) (l : Nat) (o : Obj) (hl : l < M) (hS : ∀ k, S k → k < l) : KeepE M S Ex W (W.putObj l o) :=
 ⟨rfl, rfl, rfl, by simp, fun i hi => World.putObj_heap_other (by have := hS i hi; omega), fun k o' hk ho _ => (World.putObj_heap_other (by omega)).trans ho⟩
theorem KeepE.setCell {M : Nat} {S : Nat → Prop} {Ex : TypeId → Prop} (W : World) (X i : Nat) (v : Value) (hX : X < M) (hS : ¬ S X) : KeepE M S Ex W (W.setCell ⟨X, i, none⟩ v) :=
 ⟨rfl, rfl, rfl, by simp [World.setCell], fun k hk => Below.heap_setCell _ _ _ _ (fun e => hS (show S X from (show k = X from e) ▸ hk)), fun k o hk ho _ => (Below.heap_setCell _ _ _ _ (by simp; omega)).trans ho⟩
theorem KeepE.box {M : Nat} {S : Nat → Prop} {Ex : TypeId → Prop} {A B : World} (h : KeepE M S Ex A B) {b : Nat} {t : TypeId} {v : Value} (hb : Boxed A b t v) (hM : M ≤ b) (ht : ¬ Ex t) : Boxed B b t v :=
 h.rest b _ hM hb (fun c t' fr e => by cases e; exact ht)
theorem KeepE.boxS {M : Nat} {S : Nat → Prop} {Ex : TypeId → Prop} {A B : World} (h : KeepE M S Ex A B) {b : Nat} {t : TypeId} {v : Value} (hb : Boxed A b t v) (hS : S b) : Boxed B b t v := (h.block b hS).trans hb
theorem roundW {m m' : Nat} {P : Program} {l : Nat} {f : FuncId} {tmps : Array Value} {assign body : Code} {w : World} {R : Ending → World → Prop}
   (h : RoundIn Fence.wide m P l f tmps assign body w R) : RoundIn Fence.wide m' P l f tmps assign body w R := ⟨h.1, fun c cs _ => h.2 c cs (fun d h => by cases h)⟩
theorem roundR {m m' : Nat} {P : Program} {l l' : Nat} {f : FuncId} {tmps : Array Value} {assign body : Code} {w : World} {R : Ending → World → Prop}
   (h : RoundIn Fence.wide m P l f tmps assign body w R) : RoundIn (Fence.wide.inRound l') m' P l f tmps assign body w R := ⟨h.1, fun c cs _ => h.2 c cs (fun d h => by cases h)⟩
theorem yieldW {m m' : Nat} {P : Program} {l : Nat} {args : Array Value} {w : World} {R : Ending → World → Prop} (h : YieldAt Fence.wide m P l args w R) : YieldAt Fence.wide m' P l args w R :=
 let ⟨fn, tmps, assign, body, h1, h2⟩ := h
 ⟨fn, tmps, assign, body, h1, roundW h2⟩
theorem yield_wide {n : Nat} {P : Program} {Q : Exit → Act → World → Prop} {o : Oper} {a : Act} {w : World} {K : Act → World → Prop} {x : Operand} {args : Array Operand} {tys : Array TypeId} {l : Nat} {vals : Array Value}
   (ho : o.op = .call { callee := .value x, args := args, argTypes := tys }) (hx : a.eval x = .func (.yield l) #[] #[]) (hargs : args.map a.eval = vals) {fn : FuncId} {tmps : Array Value} {assign body : Code}
   (hy : (Instr.yield l vals).run P w = .ok (.round l fn tmps assign body) w)
   (h : RoundIn Fence.wide (n - 1) P l fn tmps assign body w fun e w' => match e with | .returned v => K (a.put o.dst v) w' | .panicked c => Q (.panic c) a w' | .outgrown => LetsOut Q) : Oper.wpIn Fence.wide n P o a w K Q := by
 unfold Oper.wpIn
 refine ⟨fun f _ => trivial, ?_⟩
 rw [show Fence.wide.round = none from rfl, Oper.semAt_none]
 have he : (execOp a.eval o).run P w = .ok (.round l fn tmps assign body) w := by
   unfold execOp
   simp only [ho, resolve, hx, hargs]
   simp [Deferred.ofValue, invoke, hy, Sem.run_bind, Result.andThen_ok]
 rw [he]
 exact ⟨fun hh => (by cases (show false = true from hh)), RoundIn.mono h (fun e w' he => by cases e <;> exact he)⟩
end Go.Proofs.Ytnpiepimajippaa
namespace Go.Proofs.Ytnpiepimajippaa
open Go.RowKit
variable {P : Program} {l n : Nat} {md : Region.Mode} {ops : Array Oper} {Q : Exit → Act → World → Prop}
theorem op_in_round {o : Oper} {a : Act} {w : World} {K : Act → World → Prop} (hd : ∀ c, o.op ≠ .defer c) (h : o.wp P a w K Q) : o.wpIn (Fence.wide.inRound l) n P a w K Q := by
 unfold Oper.wpIn
 refine ⟨fun f _ => trivial, ?_⟩
 rw [show (Fence.wide.inRound l).round = some l from rfl, Oper.semAt_some l _ o hd]
 unfold Oper.wp at h
 generalize (execOp a.eval o).run P w = r at *
 have hdep : (Fence.wide.inRound l).depth.isSome = true → 1 ≤ n := fun hh => by cases (show false = true from hh)
 match r, h with
 | .ok (.value v) w', h => exact h
 | .ok .skip w', h => exact h
 | .ok (.defer d) w', h => exact h
 | .ok (.enter f args) w', h => exact ⟨hdep, CallsIn.inRound l (callsIn_wide.2 h)⟩
 | .ok (.row row args) w', h => exact ⟨hdep, fun c cs _ => let ⟨v, w', r, s⟩ := h c cs; ⟨v, w', r, stepsIn_wide.2 s⟩⟩
 | .halt (.panic v) w', h => exact h
theorem any_in_round (hd : ∀ (i : Nat) (o : Oper), ops[i]? = some o → ∀ c, o.op ≠ .defer c) (hLO : ¬ LetsOut Q) : ∀ (fuel : Nat) (listed : Array Bool) (a : Act) (w : World), wpAny P md ops Q fuel listed a w → wpAnyIn (Fence.wide.inRound l) n P md ops Q fuel listed a w
 | 0, _, _, _, h => h
 | fuel + 1, listed, a, w, h => by
   refine ⟨h.1, fun i hi => ?_⟩
   have h1 := h.2 i hi
   unfold wpOp at h1
   unfold wpOpIn
   cases ho : ops[i]? with
   | none => rw [ho] at h1; exact any_in_round hd hLO fuel _ _ _ h1
   | some o =>
     rw [ho] at h1
     dsimp only at h1 ⊢
     by_cases hw : Region.wanted o (yielded ops a.tmps) = true
     · rw [if_pos hw] at h1 ⊢
       rcases h1 with h1 | ⟨_, h2⟩
       · exact op_in_round (hd i o ho) (Oper.wp_mono (fun a w h => any_in_round hd hLO fuel _ _ _ h) h1)
       · exact absurd h2 hLO
     · rw [if_neg hw] at h1 ⊢
       exact ⟨fun f _ => trivial, any_in_round hd hLO fuel _ _ _ h1⟩
def OnlyN (Q : Exit → Act → World → Prop) : Exit → Act → World → Prop
 | .normal, a, w => Q .normal a w
 | _, _, _ => False
theorem OnlyN.normal {a : Act} {w : World} (h : Q .normal a w) : OnlyN Q .normal a w := h
def Oper.plainOp (o : Oper) : Bool := match o.op with | .defer _ => false | _ => true
theorem wpIn_region_round {S : World → Prop} {id : Nat} {a : Act} {w : World} (hm : P.follows .mixedOrders = true) (hd : ops.all Oper.plainOp = true) (hS : S w.drew)
   (h : S w.drew → wpAnyH P .any ops (OnlyN Q) S ops.size (Array.replicate ops.size false) a w.drew) : (Code.region id ops true).wpIn (Fence.wide.inRound l) n P Q a w := by
 refine wpIn_mono (Q := OnlyN Q) ?_ (fun e a w h => by cases e <;> first | exact h | exact h.elim)
 refine wpIn_region_any hm (any_in_round ?_ ?_ _ _ _ _ (wpAny_of_held _ _ _ _ (h hS)))
 · intro i o ho c hc
   have h1 := (Array.all_eq_true.1 hd) i (Array.getElem?_eq_some_iff.1 ho).1
   rw [(Array.getElem?_eq_some_iff.1 ho).2] at h1
   unfold Oper.plainOp at h1
   rw [hc] at h1
   cases h1
 · rintro ⟨a, w, h⟩; exact h
end Go.Proofs.Ytnpiepimajippaa
