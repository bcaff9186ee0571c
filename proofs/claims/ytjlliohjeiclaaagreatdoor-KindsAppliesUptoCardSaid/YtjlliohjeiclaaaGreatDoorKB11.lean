/- Words, contracts and walks that the proof stands on (KqA KnS KnU KnN). -/
import Derived.Deep.MidRow
import Derived.Lib.SlicesCompact
import Derived.Shelf.Slices.CompactS
import Derived.Shelf.Slices.In.SortNone
import Derived.Shelf.Sort.Plain
import Derived.Test.YtjlliohjeiclaaaGreatDoorKB1
import Derived.Test.YtjlliohjeiclaaaGreatDoorKB10
import Derived.Test.YtjlliohjeiclaaaGreatDoorKB2
import Derived.Test.YtjlliohjeiclaaaGreatDoorKB3
import Derived.Test.YtjlliohjeiclaaaGreatDoorKB8
import Derived.Test.YtjlliohjeiclaaaGreatDoorKB9
namespace Go.Proofs.YtjlliohjeiclaaaGreatDoor
open Go.RowKit St Pm Ku Kn
theorem anyT_madeK {P : Program} {md : Region.Mode} {ops : Array Oper} {Q : Exit → Act → World → Prop} {T : List Nat} {W w1 : World} {o : Obj} {B : Nat} (hS : Below B W w1) (hB : B ≤ w1.heap.size) {fuel : Nat} {listed : Array Bool} {a : Act}
 (h : ∀ w2, w2 = w1.alloc o → Below B W w2 → anyT P md ops Q T (fun w' => Below B W w') fuel listed a w2) : anyT P md ops Q T (fun w' => Below B W w') fuel listed a (w1.alloc o) :=
 h _ rfl (hS.alloc hB o)
theorem if_wanted {ops : Array Oper} {o : Oper} {a : Act} {E p : Prop} (h : if Region.wanted o (yielded ops a.tmps) = true then p else E) (hgd : o.guard = none) : p := by rwa [if_pos (by simp [Region.wanted, hgd])] at h
namespace Kn
def markE : Ev := (⟨0, 0, ⟨#[]⟩, 0, 0⟩, ⟨#[109, 97, 114, 107]⟩)
end Kn
open Kn
set_option maxRecDepth 100000 in
set_option maxHeartbeats 2000000 in
theorem kr_spoil (k m : Int) (g n cc B : Nat) (xs : List Value) (w : World) (hn : n ≤ 9223372036854775807) (hxs : xs.length = (n + 1) * 6) (how : w.ownsRow B 53 6 (.slice (some ⟨g, 0, none⟩) (n + 1) cc) (n + 1) xs) :
 Calls Tryz.prog 89 #[.agg #[.int .i64 k, .int .i64 m, .slice (some ⟨g, 0, none⟩) n cc]] w fun e w' => e = .returned (.tuple #[]) ∧ w.grownBy w' (some g) := by
 have HL := Lib.hid hxs
 have HG : Hid (g < w.heap.size) := Lib.hid (how.lt g rfl).2
 have H1 : Hid ((#[.int .i64 0, .int .i64 0, .string ⟨#[]⟩, .int .i64 0, .int .i64 0, .string ⟨#[111, 118, 101, 114]⟩] : Array Value).all (·.oneCell') = true) := Lib.hid (by simp [Value.oneCell'])
 have HI6 : Hid ((Tryz.prog.info? 53).map (·.size) = some (#[.int .i64 0, .int .i64 0, .string ⟨#[]⟩, .int .i64 0, .int .i64 0, .string ⟨#[111, 118, 101, 114]⟩] : Array Value).size) := Lib.hid (by kernel_rfl)
 have OW := Lib.hid how
 clear hxs how
 have HC : Hid (Chain [w] w) := Lib.hid (Chain.one w)
 go_enter Tryz.func89, Tryz.ntmps89
 go_upto_region 1 with (fail)
 obtain ⟨z, hz⟩ : ∃ c, w.heap.size = c := ⟨_, rfl⟩
 try rw [hz]
 obtain ⟨w1, hw1⟩ : ∃ X, allocs w [.cells #[.int .i64 k, .int .i64 m, .slice (some ⟨g, 0, none⟩) n cc] 79] = X := ⟨_, rfl⟩
 rw [show w.alloc (.cells #[.int .i64 k, .int .i64 m, .slice (some ⟨g, 0, none⟩) n cc] 79) = w1 from hw1]
 have hb : Below w.heap.size w w1 := by rw [← hw1]; exact allocs_below _ _
 have HV : Hid (w1.heap[z]? = some (.cells #[.int .i64 k, .int .i64 m, .slice (some ⟨g, 0, none⟩) n cc] 79 (0, 0))) := Lib.hid (by have := allocs_get [.cells #[.int .i64 k, .int .i64 m, .slice (some ⟨g, 0, none⟩) n cc] 79] w 0 _ rfl; rw [hw1, hz] at this; exact this)
 have Sz : Hid (w.heap.size = z) := Lib.hid hz
 replace HC := Lib.hid (HC.out.push hb)
 clear hb hw1 hz
 have OW1 := Lib.hid (own_below OW.out (HC.out.to w (by simp)) (fun k' hk => (OW.out.lt k' hk).2))
 have GZ : Hid (g ≠ z) := Lib.hid (by have h1 := HG.out; have h2 := Sz.out; omega)
 have GR1 : Hid (w.grownBy w1 (some g)) := Lib.hid (grown_below (HC.out.to w (by simp)) (Nat.le_refl _))
 go_wp2_with fail
 go_loopw [2] (fun u2 wr => ∃ (i : Nat) (wq : World) (ys : List Value), wq = wr ∧ u2 = .int .i64 (i : Int) ∧ i ≤ n ∧ Hid (ys.length = (n + 1) * 6) ∧ Hid (wq.ownsRow B 53 6 (.slice (some ⟨g, 0, none⟩) (n + 1) cc) (n + 1) ys) ∧ Hid (w.grownBy wq (some g)) ∧ Hid (wq.heap[z]? = some (.cells #[.int .i64 k, .int .i64 m, .slice (some ⟨g, 0, none⟩) n cc] 79 (0, 0)))) (fun u2 _ => n - (intOf u2).toNat)
 case atStart => exact ⟨0, _, xs, rfl, rfl, Nat.zero_le _, HL, OW1, GR1, HV⟩
 clear OW1 GR1 HV HC OW HL
 case round =>
  obtain ⟨i, wq, ys, rfl, rfl, hi, HY, HO, HR, HV⟩ := hrel
  have k2 := cell_of_row _ z 2 _ _ _ HV.out
  by_cases hlt : i < n
  · have hli : (i : Int) < (n : Int) := by omega
    have hlen : i * 6 + 6 ≤ ys.length := by rw [HY.out]; omega
    have HT : Hid (wq.there g (i * 6) (#[.int .i64 0, .int .i64 0, .string ⟨#[]⟩, .int .i64 0, .int .i64 0, .string ⟨#[111, 118, 101, 114]⟩] : Array Value).size) := Lib.hid (own_there HO.out (i * 6) 6 hlen)
    have OW3 := Lib.hid (own_mid ([.int .i64 0, .int .i64 0, .string ⟨#[]⟩, .int .i64 0, .int .i64 0, .string ⟨#[111, 118, 101, 114]⟩] : List Value) (i * 6) _ _ HO.out hlen)
    have GRX : Hid (wq.grownBy (wq.setCells g (i * 6) [.int .i64 0, .int .i64 0, .string ⟨#[]⟩, .int .i64 0, .int .i64 0, .string ⟨#[111, 118, 101, 114]⟩]) (some g)) := Lib.hid (grown_setCells g _ (i * 6) wq)
    have GR3 : Hid (w.grownBy (wq.setCells g (i * 6) [.int .i64 0, .int .i64 0, .string ⟨#[]⟩, .int .i64 0, .int .i64 0, .string ⟨#[111, 118, 101, 114]⟩]) (some g)) := Lib.hid (grown_tr HR.out GRX.out)
    have HV3 := Lib.hid (grow_keep GRX.out HV.out (fun e => GZ.out (Option.some.inj e)))
    have LN3 : Hid ((ys.take (i * 6) ++ ([.int .i64 0, .int .i64 0, .string ⟨#[]⟩, .int .i64 0, .int .i64 0, .string ⟨#[111, 118, 101, 114]⟩] : List Value) ++ ys.drop (i * 6 + ([.int .i64 0, .int .i64 0, .string ⟨#[]⟩, .int .i64 0, .int .i64 0, .string ⟨#[111, 118, 101, 114]⟩] : List Value).length)).length = (n + 1) * 6) := Lib.hid (by rw [List.length_append, List.length_append, List.length_take, List.length_drop, HY.out]; simp; omega)
    go_upto_region 3 with (refine wpList_store_mid rfl 53 (.tmp 14) (.tmp 13) rfl g (i * 6) #[.int .i64 0, .int .i64 0, .string ⟨#[]⟩, .int .i64 0, .int .i64 0, .string ⟨#[111, 118, 101, 114]⟩] rfl rfl HT.out HI6.out H1.out ?_)
    simp only [Act.put]
    clear k2 HT
    generalize wq.setCells g (i * 6) [.int .i64 0, .int .i64 0, .string ⟨#[]⟩, .int .i64 0, .int .i64 0, .string ⟨#[111, 118, 101, 114]⟩] = w3 at *
    go_wp2_with fail
    go_roundw
    case rel => exact ⟨i + 1, _, _, rfl, by go_num, by omega, LN3, OW3, GR3, HV3⟩
    case measure => simp [intOf]; omega
  · obtain rfl : i = n := by omega
    have hli : ¬ (i : Int) < (i : Int) := by omega
    go_wp2_with fail
    go_end0
    exact ⟨rfl, HR.out⟩
set_option maxRecDepth 100000 in
set_option maxHeartbeats 4000000 in
theorem kr_left (k m : Int) (l : List Ev) (g n cc B : Nat) (a : Option Addr) (c : Nat) (w : World) (hn : n = l.length) (hb : n ≤ 100000) (how : w.ownsRow B 53 6 (.slice (some ⟨g, 0, none⟩) (n + 1) cc) (n + 1) (elsV (l ++ [markE]))) (hl : CellsAt w a (elsV l)) :
 Calls Tryz.prog 39 #[.agg #[.int .i64 k, .int .i64 m, .slice (some ⟨g, 0, none⟩) n cc], .agg #[.int .i64 k, .int .i64 m, .slice a n c]] w fun e w' => e = .returned (.bool true) ∧ w.grownBy w' (some g) := by
 have HN := Lib.hid hn
 have HL := Lib.hid hl
 have OW := Lib.hid how
 have NC : Hid (n + 1 ≤ cc) := Lib.hid (by obtain ⟨g', k', e, _, _, h, _⟩ := own_form how (by omega); cases e; exact h)
 clear hn how hl
 have HC : Hid (Chain [w] w) := Lib.hid (Chain.one w)
 go_enter Tryz.func39, Tryz.ntmps39
 go_upto_region 1 with (fail)
 obtain ⟨z, hz⟩ : ∃ c, w.heap.size = c := ⟨_, rfl⟩
 try rw [hz]
 obtain ⟨w1, hw1⟩ : ∃ X, allocs w [.cells #[.int .i64 k, .int .i64 m, .slice (some ⟨g, 0, none⟩) n cc] 79, .cells #[.int .i64 k, .int .i64 m, .slice a n c] 79] = X := ⟨_, rfl⟩
 rw [show (w.alloc (.cells #[.int .i64 k, .int .i64 m, .slice (some ⟨g, 0, none⟩) n cc] 79)).alloc (.cells #[.int .i64 k, .int .i64 m, .slice a n c] 79) = w1 from hw1]
 have hb : Below w.heap.size w w1 := by rw [← hw1]; exact allocs_below _ _
 have HM : Hid (w1.heap[z]? = some (.cells #[.int .i64 k, .int .i64 m, .slice (some ⟨g, 0, none⟩) n cc] 79 (0, 0))) := Lib.hid (by have := allocs_get [.cells #[.int .i64 k, .int .i64 m, .slice (some ⟨g, 0, none⟩) n cc] 79, .cells #[.int .i64 k, .int .i64 m, .slice a n c] 79] w 0 _ rfl; rw [hw1, hz] at this; exact this)
 have HV : Hid (w1.heap[z + 1]? = some (.cells #[.int .i64 k, .int .i64 m, .slice a n c] 79 (0, 0))) := Lib.hid (by have := allocs_get [.cells #[.int .i64 k, .int .i64 m, .slice (some ⟨g, 0, none⟩) n cc] 79, .cells #[.int .i64 k, .int .i64 m, .slice a n c] 79] w 1 _ rfl; rw [hw1, hz] at this; exact this)
 have Sz : Hid (w.heap.size = z) := Lib.hid hz
 replace HC := Lib.hid (HC.out.push hb)
 clear hb hw1 hz
 have OW1 := Lib.hid (own_below OW.out (HC.out.to w (by simp)) (fun k' hk => (OW.out.lt k' hk).2))
 have CM : Hid (∀ W, Below w1.heap.size w1 W → CellsAt W (some ⟨g, 0, none⟩) (elsV (l ++ [markE]))) := Lib.hid (fun W hW => (CellsAt.ownN OW1.out).below hW rfl)
 have CL : Hid (∀ W, Below w1.heap.size w1 W → CellsAt W a (elsV l)) := Lib.hid (fun W hW => (HL.out.below (HC.out.to w (by simp)) rfl).below hW rfl)
 have C0 : Hid (∀ W, Below w1.heap.size w1 W → CellsAt W (some ⟨g, 0, none⟩) (elsV l)) := Lib.hid (fun W hW => by
  have h := CM.out W hW
  rw [elsV_append] at h
  intro i hi
  obtain ⟨b, o, e, hc⟩ := h i (by rw [List.length_append]; omega)
  rw [List.getElem_append_left hi] at hc
  exact ⟨b, o, e, hc⟩)
 have CK : Hid (∀ W, Below w1.heap.size w1 W → W.cell? ⟨g, n * 6 + 5, none⟩ = some (.string ⟨#[109, 97, 114, 107]⟩)) := Lib.hid (fun W hW => by
  obtain ⟨b, o, e, pc⟩ := els_get (CM.out W hW) n (by rw [HN.out]; simp)
  cases e
  have e2 : (l ++ [markE])[n]'(by rw [HN.out]; simp) = markE := by rw [List.getElem_append_right (by rw [HN.out]; exact Nat.le_refl _)]; simp
  rw [e2, Nat.zero_add] at pc
  exact pc.c5)
 have SL : Hid (∀ W, (Instr.slice 22 (.slice (some ⟨g, 0, none⟩) n cc) none (some (.int .i64 ((n : Int) + 1))) none).run Tryz.prog W = .ok (.slice (some ⟨g, 0, none⟩) (n + 1) cc) W) := Lib.hid (fun W => by
  have := run_uptoM W 22 53 Tryz.underlying22 6 (fun w => by kernel_rfl) g n cc (n + 1) NC.out
  simpa using this)
 have hnw : IntKind.i64.wrap ((n : Int) + 1) = (n : Int) + 1 := by rw [IntKind.wrap_i64]; omega
 have hnn : (n : Int) < (n : Int) + 1 := by omega
 have SAM : Hid (sameG k m l k m l = true) := Lib.hid (by simp [sameG])
 go_cut [5] (fun u5 wx => u5 = .bool true ∧ Hid (Below w1.heap.size w1 wx))
 case first =>
  refine relG_start (slots := [6, 7, 8, 9, 10, 11, 12, 13, 14, 15, 16, 17, 18, 19, 20, 21, 22, 23, 24, 5]) (so := []) (by kernel_rfl) (by kernel_rfl) (by rfl) ?_
  refine relG_pure (i := 0) (o := ⟨some 6, _, _, _, _, _⟩) (v := ?v1) [] [2] rfl rfl (by kernel_rfl) (by kernel_rfl) (fun t w1 hB hf hbf => ?y1) ?n1
  case y1 =>
   simp only [BasF] at hbf
   clear hf
   obtain ⟨⟨b2, k2⟩, _⟩ := hbf
   have hm := boxStays HM.out hB
   have m0 := cell_of_row _ z 0 _ _ _ hm
   have m1 := cell_of_row _ z 1 _ _ _ hm
   have m2 := cell_of_row _ z 2 _ _ _ hm
   have hv := boxStays HV.out hB
   have v0 := cell_of_row _ (z + 1) 0 _ _ _ hv
   have v1 := cell_of_row _ (z + 1) 1 _ _ _ hv
   have v2 := cell_of_row _ (z + 1) 2 _ _ _ hv
   clear hm hv
   have sl := SL.out w1
   have ck := CK.out w1 hB
   refine Or.inl ⟨wanted_none rfl, ?_⟩
   rintro _ rfl
   go_simp <;> with_reducible rfl
  refine relG_pure (i := 1) (o := ⟨some 7, _, _, _, _, _⟩) (v := ?v2) [] [3] rfl rfl (by kernel_rfl) (by kernel_rfl) (fun t w1 hB hf hbf => ?y2) ?n2
  case y2 =>
   simp only [BasF] at hbf
   clear hf
   obtain ⟨⟨b3, k3⟩, _⟩ := hbf
   have hm := boxStays HM.out hB
   have m0 := cell_of_row _ z 0 _ _ _ hm
   have m1 := cell_of_row _ z 1 _ _ _ hm
   have m2 := cell_of_row _ z 2 _ _ _ hm
   have hv := boxStays HV.out hB
   have v0 := cell_of_row _ (z + 1) 0 _ _ _ hv
   have v1 := cell_of_row _ (z + 1) 1 _ _ _ hv
   have v2 := cell_of_row _ (z + 1) 2 _ _ _ hv
   clear hm hv
   have sl := SL.out w1
   have ck := CK.out w1 hB
   refine Or.inl ⟨wanted_none rfl, ?_⟩
   rintro _ rfl
   go_simp <;> with_reducible rfl
  refine relG_call (i := 2) (o := ⟨some 8, _, _, _, _, _⟩) ((fun v _ => v = .bool true)) [(0, 6, 1), (1, 7, 0)] [] rfl rfl (by kernel_rfl) (by kernel_rfl) ((fun _ _ _ h _ => h)) ?_ ?_
  · intro t w1 hB hf hbf K hK
    simp only [DepF, List.getD_cons_zero, List.getD_cons_succ] at hf
    obtain ⟨⟨_, ⟨e6, i6⟩, rfl⟩, ⟨_, ⟨e7, i7⟩, rfl⟩, _⟩ := hf
    clear hbf
    have hm := boxStays HM.out hB
    have m0 := cell_of_row _ z 0 _ _ _ hm
    have m1 := cell_of_row _ z 1 _ _ _ hm
    have m2 := cell_of_row _ z 2 _ _ _ hm
    have hv := boxStays HV.out hB
    have v0 := cell_of_row _ (z + 1) 0 _ _ _ hv
    have v1 := cell_of_row _ (z + 1) 1 _ _ _ hv
    have v2 := cell_of_row _ (z + 1) 2 _ _ _ hv
    clear hm hv
    have sl := SL.out w1
    have ck := CK.out w1 hB
    refine ⟨wanted_none rfl, ?_⟩
    go_simp
    refine (kr_Same k m l (some ⟨g, 0, none⟩) n cc k m l a n c w1 (C0.out w1 hB) (CL.out w1 hB) HN.out HN.out (by omega)).mono ?_
    rintro e w2 ⟨rfl, hb⟩
    exact hK.out _ w2 (by rw [SAM.out]) hb
  refine relG_pure (i := 3) (o := ⟨some 9, _, _, _, _, _⟩) (v := ?v3) [(2, 8, 0)] [] rfl rfl (by kernel_rfl) (by kernel_rfl) (fun t w1 hB hf hbf => ?y3) ?n3
  case y3 =>
   simp only [DepF, List.getD_cons_zero] at hf
   obtain ⟨⟨_, ⟨e8, i8⟩, rfl⟩, _⟩ := hf
   clear hbf
   have hm := boxStays HM.out hB
   have m0 := cell_of_row _ z 0 _ _ _ hm
   have m1 := cell_of_row _ z 1 _ _ _ hm
   have m2 := cell_of_row _ z 2 _ _ _ hm
   have hv := boxStays HV.out hB
   have v0 := cell_of_row _ (z + 1) 0 _ _ _ hv
   have v1 := cell_of_row _ (z + 1) 1 _ _ _ hv
   have v2 := cell_of_row _ (z + 1) 2 _ _ _ hv
   clear hm hv
   have sl := SL.out w1
   have ck := CK.out w1 hB
   refine Or.inl ⟨wanted_none rfl, ?_⟩
   rintro _ rfl
   go_simp <;> with_reducible rfl
  refine relG_pure (i := 4) (o := ⟨some 10, _, _, _, _, _⟩) (v := ?v4) [(3, 9, 0)] [2] rfl rfl (by kernel_rfl) (by kernel_rfl) (fun t w1 hB hf hbf => ?y4) ?n4
  case y4 =>
   simp only [DepF, List.getD_cons_zero] at hf
   simp only [BasF] at hbf
   obtain ⟨⟨_, ⟨e9, i9⟩, rfl⟩, _⟩ := hf
   obtain ⟨⟨b2, k2⟩, _⟩ := hbf
   have hm := boxStays HM.out hB
   have m0 := cell_of_row _ z 0 _ _ _ hm
   have m1 := cell_of_row _ z 1 _ _ _ hm
   have m2 := cell_of_row _ z 2 _ _ _ hm
   have hv := boxStays HV.out hB
   have v0 := cell_of_row _ (z + 1) 0 _ _ _ hv
   have v1 := cell_of_row _ (z + 1) 1 _ _ _ hv
   have v2 := cell_of_row _ (z + 1) 2 _ _ _ hv
   clear hm hv
   have sl := SL.out w1
   have ck := CK.out w1 hB
   refine Or.inl ⟨(by have hg := getD_some i9; simp [Region.wanted, yielded, hg]), ?_⟩
   rintro _ rfl
   go_simp <;> with_reducible rfl
  refine relG_pure (i := 5) (o := ⟨some 11, _, _, _, _, _⟩) (v := ?v5) [(4, 10, 0), (3, 9, 1)] [] rfl rfl (by kernel_rfl) (by kernel_rfl) (fun t w1 hB hf hbf => ?y5) ?n5
  case y5 =>
   simp only [DepF, List.getD_cons_zero, List.getD_cons_succ] at hf
   obtain ⟨⟨_, ⟨e10, i10⟩, rfl⟩, ⟨_, ⟨e9, i9⟩, rfl⟩, _⟩ := hf
   clear hbf
   have hm := boxStays HM.out hB
   have m0 := cell_of_row _ z 0 _ _ _ hm
   have m1 := cell_of_row _ z 1 _ _ _ hm
   have m2 := cell_of_row _ z 2 _ _ _ hm
   have hv := boxStays HV.out hB
   have v0 := cell_of_row _ (z + 1) 0 _ _ _ hv
   have v1 := cell_of_row _ (z + 1) 1 _ _ _ hv
   have v2 := cell_of_row _ (z + 1) 2 _ _ _ hv
   clear hm hv
   have sl := SL.out w1
   have ck := CK.out w1 hB
   refine Or.inl ⟨(by have hg := getD_some i9; simp [Region.wanted, yielded, hg]), ?_⟩
   rintro _ rfl
   go_simp <;> with_reducible rfl
  refine relG_pure (i := 6) (o := ⟨some 12, _, _, _, _, _⟩) (v := ?v6) [(3, 9, 2)] [3] rfl rfl (by kernel_rfl) (by kernel_rfl) (fun t w1 hB hf hbf => ?y6) ?n6
  case y6 =>
   simp only [DepF, List.getD_cons_zero, List.getD_cons_succ] at hf
   simp only [BasF] at hbf
   obtain ⟨⟨_, ⟨e9, i9⟩, rfl⟩, _⟩ := hf
   obtain ⟨⟨b3, k3⟩, _⟩ := hbf
   have hm := boxStays HM.out hB
   have m0 := cell_of_row _ z 0 _ _ _ hm
   have m1 := cell_of_row _ z 1 _ _ _ hm
   have m2 := cell_of_row _ z 2 _ _ _ hm
   have hv := boxStays HV.out hB
   have v0 := cell_of_row _ (z + 1) 0 _ _ _ hv
   have v1 := cell_of_row _ (z + 1) 1 _ _ _ hv
   have v2 := cell_of_row _ (z + 1) 2 _ _ _ hv
   clear hm hv
   have sl := SL.out w1
   have ck := CK.out w1 hB
   refine Or.inl ⟨(by have hg := getD_some i9; simp [Region.wanted, yielded, hg]), ?_⟩
   rintro _ rfl
   go_simp <;> with_reducible rfl
  refine relG_pure (i := 7) (o := ⟨some 13, _, _, _, _, _⟩) (v := ?v7) [(6, 12, 0), (3, 9, 3)] [] rfl rfl (by kernel_rfl) (by kernel_rfl) (fun t w1 hB hf hbf => ?y7) ?n7
  case y7 =>
   simp only [DepF, List.getD_cons_zero, List.getD_cons_succ] at hf
   obtain ⟨⟨_, ⟨e12, i12⟩, rfl⟩, ⟨_, ⟨e9, i9⟩, rfl⟩, _⟩ := hf
   clear hbf
   have hm := boxStays HM.out hB
   have m0 := cell_of_row _ z 0 _ _ _ hm
   have m1 := cell_of_row _ z 1 _ _ _ hm
   have m2 := cell_of_row _ z 2 _ _ _ hm
   have hv := boxStays HV.out hB
   have v0 := cell_of_row _ (z + 1) 0 _ _ _ hv
   have v1 := cell_of_row _ (z + 1) 1 _ _ _ hv
   have v2 := cell_of_row _ (z + 1) 2 _ _ _ hv
   clear hm hv
   have sl := SL.out w1
   have ck := CK.out w1 hB
   refine Or.inl ⟨(by have hg := getD_some i9; simp [Region.wanted, yielded, hg]), ?_⟩
   rintro _ rfl
   go_simp <;> with_reducible rfl
  refine relG_pure (i := 8) (o := ⟨some 14, _, _, _, _, _⟩) (v := ?v8) [(7, 13, 0), (3, 9, 4)] [] rfl rfl (by kernel_rfl) (by kernel_rfl) (fun t w1 hB hf hbf => ?y8) ?n8
  case y8 =>
   simp only [DepF, List.getD_cons_zero, List.getD_cons_succ] at hf
   obtain ⟨⟨_, ⟨e13, i13⟩, rfl⟩, ⟨_, ⟨e9, i9⟩, rfl⟩, _⟩ := hf
   clear hbf
   have hm := boxStays HM.out hB
   have m0 := cell_of_row _ z 0 _ _ _ hm
   have m1 := cell_of_row _ z 1 _ _ _ hm
   have m2 := cell_of_row _ z 2 _ _ _ hm
   have hv := boxStays HV.out hB
   have v0 := cell_of_row _ (z + 1) 0 _ _ _ hv
   have v1 := cell_of_row _ (z + 1) 1 _ _ _ hv
   have v2 := cell_of_row _ (z + 1) 2 _ _ _ hv
   clear hm hv
   have sl := SL.out w1
   have ck := CK.out w1 hB
   refine Or.inl ⟨(by have hg := getD_some i9; simp [Region.wanted, yielded, hg]), ?_⟩
   rintro _ rfl
   go_simp <;> with_reducible rfl
  refine relG_pure (i := 9) (o := ⟨some 15, _, _, _, _, _⟩) (v := ?v9) [(8, 14, 0), (3, 9, 5)] [] rfl rfl (by kernel_rfl) (by kernel_rfl) (fun t w1 hB hf hbf => ?y9) ?n9
  case y9 =>
   simp only [DepF, List.getD_cons_zero, List.getD_cons_succ] at hf
   obtain ⟨⟨_, ⟨e14, i14⟩, rfl⟩, ⟨_, ⟨e9, i9⟩, rfl⟩, _⟩ := hf
   clear hbf
   have hm := boxStays HM.out hB
   have m0 := cell_of_row _ z 0 _ _ _ hm
   have m1 := cell_of_row _ z 1 _ _ _ hm
   have m2 := cell_of_row _ z 2 _ _ _ hm
   have hv := boxStays HV.out hB
   have v0 := cell_of_row _ (z + 1) 0 _ _ _ hv
   have v1 := cell_of_row _ (z + 1) 1 _ _ _ hv
   have v2 := cell_of_row _ (z + 1) 2 _ _ _ hv
   clear hm hv
   have sl := SL.out w1
   have ck := CK.out w1 hB
   refine Or.inl ⟨(by have hg := getD_some i9; simp [Region.wanted, yielded, hg]), ?_⟩
   rintro _ rfl
   go_simp <;> with_reducible rfl
  refine relG_pure (i := 10) (o := ⟨some 16, _, _, _, _, _⟩) (v := ?v10) [(5, 11, 4), (9, 15, 0), (3, 9, 6)] [] rfl rfl (by kernel_rfl) (by kernel_rfl) (fun t w1 hB hf hbf => ?y10) ?n10
  case y10 =>
   simp only [DepF, List.getD_cons_zero, List.getD_cons_succ] at hf
   obtain ⟨⟨_, ⟨e11, i11⟩, rfl⟩, ⟨_, ⟨e15, i15⟩, rfl⟩, ⟨_, ⟨e9, i9⟩, rfl⟩, _⟩ := hf
   clear hbf
   have hm := boxStays HM.out hB
   have m0 := cell_of_row _ z 0 _ _ _ hm
   have m1 := cell_of_row _ z 1 _ _ _ hm
   have m2 := cell_of_row _ z 2 _ _ _ hm
   have hv := boxStays HV.out hB
   have v0 := cell_of_row _ (z + 1) 0 _ _ _ hv
   have v1 := cell_of_row _ (z + 1) 1 _ _ _ hv
   have v2 := cell_of_row _ (z + 1) 2 _ _ _ hv
   clear hm hv
   have sl := SL.out w1
   have ck := CK.out w1 hB
   refine Or.inl ⟨(by have hg := getD_some i9; simp [Region.wanted, yielded, hg]), ?_⟩
   rintro _ rfl
   go_simp <;> with_reducible rfl
  refine relG_pure (i := 11) (o := ⟨some 17, _, _, _, _, _⟩) (v := ?v11) [(3, 9, 7)] [3] rfl rfl (by kernel_rfl) (by kernel_rfl) (fun t w1 hB hf hbf => ?y11) ?n11
  case y11 =>
   simp only [DepF, List.getD_cons_zero, List.getD_cons_succ] at hf
   simp only [BasF] at hbf
   obtain ⟨⟨_, ⟨e9, i9⟩, rfl⟩, _⟩ := hf
   obtain ⟨⟨b3, k3⟩, _⟩ := hbf
   have hm := boxStays HM.out hB
   have m0 := cell_of_row _ z 0 _ _ _ hm
   have m1 := cell_of_row _ z 1 _ _ _ hm
   have m2 := cell_of_row _ z 2 _ _ _ hm
   have hv := boxStays HV.out hB
   have v0 := cell_of_row _ (z + 1) 0 _ _ _ hv
   have v1 := cell_of_row _ (z + 1) 1 _ _ _ hv
   have v2 := cell_of_row _ (z + 1) 2 _ _ _ hv
   clear hm hv
   have sl := SL.out w1
   have ck := CK.out w1 hB
   refine Or.inl ⟨(by have hg := getD_some i9; simp [Region.wanted, yielded, hg]), ?_⟩
   rintro _ rfl
   go_simp <;> with_reducible rfl
  refine relG_pure (i := 12) (o := ⟨some 18, _, _, _, _, _⟩) (v := ?v12) [(11, 17, 0), (3, 9, 8)] [] rfl rfl (by kernel_rfl) (by kernel_rfl) (fun t w1 hB hf hbf => ?y12) ?n12
  case y12 =>
   simp only [DepF, List.getD_cons_zero, List.getD_cons_succ] at hf
   obtain ⟨⟨_, ⟨e17, i17⟩, rfl⟩, ⟨_, ⟨e9, i9⟩, rfl⟩, _⟩ := hf
   clear hbf
   have hm := boxStays HM.out hB
   have m0 := cell_of_row _ z 0 _ _ _ hm
   have m1 := cell_of_row _ z 1 _ _ _ hm
   have m2 := cell_of_row _ z 2 _ _ _ hm
   have hv := boxStays HV.out hB
   have v0 := cell_of_row _ (z + 1) 0 _ _ _ hv
   have v1 := cell_of_row _ (z + 1) 1 _ _ _ hv
   have v2 := cell_of_row _ (z + 1) 2 _ _ _ hv
   clear hm hv
   have sl := SL.out w1
   have ck := CK.out w1 hB
   refine Or.inl ⟨(by have hg := getD_some i9; simp [Region.wanted, yielded, hg]), ?_⟩
   rintro _ rfl
   go_simp <;> with_reducible rfl
  refine relG_pure (i := 13) (o := ⟨some 19, _, _, _, _, _⟩) (v := ?v13) [(12, 18, 0), (3, 9, 9)] [] rfl rfl (by kernel_rfl) (by kernel_rfl) (fun t w1 hB hf hbf => ?y13) ?n13
  case y13 =>
   simp only [DepF, List.getD_cons_zero, List.getD_cons_succ] at hf
   obtain ⟨⟨_, ⟨e18, i18⟩, rfl⟩, ⟨_, ⟨e9, i9⟩, rfl⟩, _⟩ := hf
   clear hbf
   have hm := boxStays HM.out hB
   have m0 := cell_of_row _ z 0 _ _ _ hm
   have m1 := cell_of_row _ z 1 _ _ _ hm
   have m2 := cell_of_row _ z 2 _ _ _ hm
   have hv := boxStays HV.out hB
   have v0 := cell_of_row _ (z + 1) 0 _ _ _ hv
   have v1 := cell_of_row _ (z + 1) 1 _ _ _ hv
   have v2 := cell_of_row _ (z + 1) 2 _ _ _ hv
   clear hm hv
   have sl := SL.out w1
   have ck := CK.out w1 hB
   refine Or.inl ⟨(by have hg := getD_some i9; simp [Region.wanted, yielded, hg]), ?_⟩
   rintro _ rfl
   go_simp <;> with_reducible rfl
  refine relG_pure (i := 14) (o := ⟨some 20, _, _, _, _, _⟩) (v := ?v14) [(10, 16, 3), (13, 19, 0), (3, 9, 10)] [] rfl rfl (by kernel_rfl) (by kernel_rfl) (fun t w1 hB hf hbf => ?y14) ?n14
  case y14 =>
   simp only [DepF, List.getD_cons_zero, List.getD_cons_succ] at hf
   obtain ⟨⟨_, ⟨e16, i16⟩, rfl⟩, ⟨_, ⟨e19, i19⟩, rfl⟩, ⟨_, ⟨e9, i9⟩, rfl⟩, _⟩ := hf
   clear hbf
   have hm := boxStays HM.out hB
   have m0 := cell_of_row _ z 0 _ _ _ hm
   have m1 := cell_of_row _ z 1 _ _ _ hm
   have m2 := cell_of_row _ z 2 _ _ _ hm
   have hv := boxStays HV.out hB
   have v0 := cell_of_row _ (z + 1) 0 _ _ _ hv
   have v1 := cell_of_row _ (z + 1) 1 _ _ _ hv
   have v2 := cell_of_row _ (z + 1) 2 _ _ _ hv
   clear hm hv
   have sl := SL.out w1
   have ck := CK.out w1 hB
   refine Or.inl ⟨(by have hg := getD_some i9; simp [Region.wanted, yielded, hg]), ?_⟩
   rintro _ rfl
   go_simp <;> with_reducible rfl
  refine relG_pure (i := 15) (o := ⟨some 21, _, _, _, _, _⟩) (v := ?v15) [(14, 20, 0), (3, 9, 11)] [] rfl rfl (by kernel_rfl) (by kernel_rfl) (fun t w1 hB hf hbf => ?y15) ?n15
  case y15 =>
   simp only [DepF, List.getD_cons_zero, List.getD_cons_succ] at hf
   obtain ⟨⟨_, ⟨e20, i20⟩, rfl⟩, ⟨_, ⟨e9, i9⟩, rfl⟩, _⟩ := hf
   clear hbf
   have hm := boxStays HM.out hB
   have m0 := cell_of_row _ z 0 _ _ _ hm
   have m1 := cell_of_row _ z 1 _ _ _ hm
   have m2 := cell_of_row _ z 2 _ _ _ hm
   have hv := boxStays HV.out hB
   have v0 := cell_of_row _ (z + 1) 0 _ _ _ hv
   have v1 := cell_of_row _ (z + 1) 1 _ _ _ hv
   have v2 := cell_of_row _ (z + 1) 2 _ _ _ hv
   clear hm hv
   have sl := SL.out w1
   have ck := CK.out w1 hB
   refine Or.inl ⟨(by have hg := getD_some i9; simp [Region.wanted, yielded, hg]), ?_⟩
   rintro _ rfl
   go_simp <;> with_reducible rfl
  refine relG_pure (i := 16) (o := ⟨some 22, _, _, _, _, _⟩) (v := ?v16) [(15, 21, 0), (3, 9, 12)] [] rfl rfl (by kernel_rfl) (by kernel_rfl) (fun t w1 hB hf hbf => ?y16) ?n16
  case y16 =>
   simp only [DepF, List.getD_cons_zero, List.getD_cons_succ] at hf
   obtain ⟨⟨_, ⟨e21, i21⟩, rfl⟩, ⟨_, ⟨e9, i9⟩, rfl⟩, _⟩ := hf
   clear hbf
   have hm := boxStays HM.out hB
   have m0 := cell_of_row _ z 0 _ _ _ hm
   have m1 := cell_of_row _ z 1 _ _ _ hm
   have m2 := cell_of_row _ z 2 _ _ _ hm
   have hv := boxStays HV.out hB
   have v0 := cell_of_row _ (z + 1) 0 _ _ _ hv
   have v1 := cell_of_row _ (z + 1) 1 _ _ _ hv
   have v2 := cell_of_row _ (z + 1) 2 _ _ _ hv
   clear hm hv
   have sl := SL.out w1
   have ck := CK.out w1 hB
   refine Or.inl ⟨(by have hg := getD_some i9; simp [Region.wanted, yielded, hg]), ?_⟩
   rintro _ rfl
   go_simp <;> with_reducible rfl
  refine relG_pure (i := 17) (o := ⟨some 23, _, _, _, _, _⟩) (v := ?v17) [(16, 22, 0), (3, 9, 13)] [] rfl rfl (by kernel_rfl) (by kernel_rfl) (fun t w1 hB hf hbf => ?y17) ?n17
  case y17 =>
   simp only [DepF, List.getD_cons_zero, List.getD_cons_succ] at hf
   obtain ⟨⟨_, ⟨e22, i22⟩, rfl⟩, ⟨_, ⟨e9, i9⟩, rfl⟩, _⟩ := hf
   clear hbf
   have hm := boxStays HM.out hB
   have m0 := cell_of_row _ z 0 _ _ _ hm
   have m1 := cell_of_row _ z 1 _ _ _ hm
   have m2 := cell_of_row _ z 2 _ _ _ hm
   have hv := boxStays HV.out hB
   have v0 := cell_of_row _ (z + 1) 0 _ _ _ hv
   have v1 := cell_of_row _ (z + 1) 1 _ _ _ hv
   have v2 := cell_of_row _ (z + 1) 2 _ _ _ hv
   clear hm hv
   have sl := SL.out w1
   have ck := CK.out w1 hB
   refine Or.inl ⟨(by have hg := getD_some i9; simp [Region.wanted, yielded, hg]), ?_⟩
   rintro _ rfl
   go_simp <;> with_reducible rfl
  refine relG_pure (i := 18) (o := ⟨some 24, _, _, _, _, _⟩) (v := ?v18) [(3, 9, 14), (17, 23, 0)] [] rfl rfl (by kernel_rfl) (by kernel_rfl) (fun t w1 hB hf hbf => ?y18) ?n18
  case y18 =>
   simp only [DepF, List.getD_cons_zero, List.getD_cons_succ] at hf
   obtain ⟨⟨_, ⟨e9, i9⟩, rfl⟩, ⟨_, ⟨e23, i23⟩, rfl⟩, _⟩ := hf
   clear hbf
   have hm := boxStays HM.out hB
   have m0 := cell_of_row _ z 0 _ _ _ hm
   have m1 := cell_of_row _ z 1 _ _ _ hm
   have m2 := cell_of_row _ z 2 _ _ _ hm
   have hv := boxStays HV.out hB
   have v0 := cell_of_row _ (z + 1) 0 _ _ _ hv
   have v1 := cell_of_row _ (z + 1) 1 _ _ _ hv
   have v2 := cell_of_row _ (z + 1) 2 _ _ _ hv
   clear hm hv
   have sl := SL.out w1
   have ck := CK.out w1 hB
   refine Or.inl ⟨wanted_none rfl, ?_⟩
   rintro _ rfl
   go_simp <;> with_reducible rfl
  refine relG_pure (i := 19) (o := ⟨some 5, _, _, _, _, _⟩) (v := ?v19) [(18, 24, 0)] [] rfl rfl (by kernel_rfl) (by kernel_rfl) (fun t w1 hB hf hbf => ?y19) ?n19
  case y19 =>
   simp only [DepF, List.getD_cons_zero] at hf
   obtain ⟨⟨_, ⟨e24, i24⟩, rfl⟩, _⟩ := hf
   clear hbf
   have hm := boxStays HM.out hB
   have m0 := cell_of_row _ z 0 _ _ _ hm
   have m1 := cell_of_row _ z 1 _ _ _ hm
   have m2 := cell_of_row _ z 2 _ _ _ hm
   have hv := boxStays HV.out hB
   have v0 := cell_of_row _ (z + 1) 0 _ _ _ hv
   have v1 := cell_of_row _ (z + 1) 1 _ _ _ hv
   have v2 := cell_of_row _ (z + 1) 2 _ _ _ hv
   clear hm hv
   have sl := SL.out w1
   have ck := CK.out w1 hB
   refine Or.inl ⟨wanted_none rfl, ?_⟩
   rintro _ rfl
   go_simp <;> with_reducible rfl
  refine relG_done [(19, 5, 0)] (by kernel_rfl) rfl (by kernel_rfl) (fun f wE hB hf => ?_)
  simp only [FinF, List.getD_cons_zero] at hf
  obtain ⟨⟨_, e5, rfl⟩, _⟩ := hf
  simp only [regT, List.foldl_cons, List.foldl_nil, List.setIfInBounds_toArray, List.set_cons_zero, List.set_cons_succ, e5]
  clear e5
  have HBD := Lib.hid hB
  clear hB
  go_wp2_with fail
  go_meet
  exact ⟨rfl, HBD⟩
 case rest =>
  obtain ⟨rfl, HBC⟩ := hcut
  obtain ⟨w2, rfl⟩ : ∃ X : World, X = wc := ⟨_, rfl⟩
  have hb := HBC.out
  replace HC := Lib.hid (HC.out.push hb)
  clear hb
  have OW2 := own_below OW1.out HBC.out (fun k' hk => (OW1.out.lt k' hk).2)
  have GR2 : Hid (w.grownBy w2 (some g)) := Lib.hid (grown_below (HC.out.to w (by simp)) (Nat.le_refl _))
  clear hnw hnn
  have kM0 := cell_of_row _ _ 0 _ _ _ (boxStays HM.out (HC.out.to w1 (by simp)))
  have kM1 := cell_of_row _ _ 1 _ _ _ (boxStays HM.out (HC.out.to w1 (by simp)))
  have kM2 := cell_of_row _ _ 2 _ _ _ (boxStays HM.out (HC.out.to w1 (by simp)))
  go_wp2_with fail
  refine (kr_spoil k m g n cc B _ _ (by omega) (by rw [elsV_length, List.length_append, ← HN.out]; rfl) OW2).mono ?_
  rintro _ w3 ⟨rfl, hg⟩
  have GR3 := Lib.hid (grown_tr GR2.out hg)
  clear kM0 kM1 kM2
  clear hg OW2
  go_wp2_with fail
  go_ret
  exact ⟨rfl, GR3.out⟩
set_option maxRecDepth 100000 in
set_option maxHeartbeats 4000000 in
theorem kr_copied (k m : Int) (l : List Ev) (a : Option Addr) (n c : Nat) (w : World) (hl : CellsAt w a (elsV l)) (hn : n = l.length) (hb : n ≤ 100000) :
 Calls Tryz.prog 33 #[.agg #[.int .i64 k, .int .i64 m, .slice a n c]] w fun e w' => ∃ g cc, e = .returned (.agg #[.int .i64 k, .int .i64 m, .slice (some ⟨g, 0, none⟩) n cc]) ∧ w'.ownsRow w.heap.size 53 6 (.slice (some ⟨g, 0, none⟩) (n + 1) cc) (n + 1) (elsV (l ++ [markE])) ∧ Below w.heap.size w w' := by
 have HN := Lib.hid hn
 have HL := Lib.hid hl
 have ET := Lib.hid elT
 have LEN : Hid ((elsV l).length = n * 6) := Lib.hid (by rw [elsV_length, HN.out])
 clear hn hl
 have HC : Hid (Chain [w] w) := Lib.hid (Chain.one w)
 go_enter Tryz.func33, Tryz.ntmps33
 go_upto_region 1 with (fail)
 obtain ⟨z, hz⟩ : ∃ c, w.heap.size = c := ⟨_, rfl⟩
 try rw [hz]
 obtain ⟨w1, hw1⟩ : ∃ X, allocs w [.cells #[.int .i64 k, .int .i64 m, .slice a n c] 79, .cells #[.int .i64 0, .int .i64 0, .slice none 0 0] 79] = X := ⟨_, rfl⟩
 rw [show (w.alloc (.cells #[.int .i64 k, .int .i64 m, .slice a n c] 79)).alloc (.cells #[.int .i64 0, .int .i64 0, .slice none 0 0] 79) = w1 from hw1]
 have hb : Below w.heap.size w w1 := by rw [← hw1]; exact allocs_below _ _
 have HV : Hid (w1.heap[z]? = some (.cells #[.int .i64 k, .int .i64 m, .slice a n c] 79 (0, 0))) := Lib.hid (by have := allocs_get [.cells #[.int .i64 k, .int .i64 m, .slice a n c] 79, .cells #[.int .i64 0, .int .i64 0, .slice none 0 0] 79] w 0 _ rfl; rw [hw1, hz] at this; exact this)
 have HR : Hid (w1.heap[z + 1]? = some (.cells #[.int .i64 0, .int .i64 0, .slice none 0 0] 79 (0, 0))) := Lib.hid (by have := allocs_get [.cells #[.int .i64 k, .int .i64 m, .slice a n c] 79, .cells #[.int .i64 0, .int .i64 0, .slice none 0 0] 79] w 1 _ rfl; rw [hw1, hz] at this; exact this)
 have Sz : Hid (w.heap.size = z) := Lib.hid hz
 replace HC := Lib.hid (HC.out.push hb)
 clear hb hw1 hz
 have BW := Lib.hid (HC.out.to w (by simp))
 have ZL : Hid (w.heap.size ≤ z ∧ z + 1 < w1.heap.size) := Lib.hid ⟨by have := Sz.out; omega, (Array.getElem?_eq_some_iff.1 HR.out).1⟩
 have VV := HV
 have HL1 := Lib.hid (HL.out.below (HC.out.to w (by simp)) rfl)
 have HCx : Hid (Chain [w1] w1) := Lib.hid (Chain.one w1)
 have CW := HC
 clear HC
 have HC := HCx
 refine wp_region_noPanic ?_
 refine region_tail (S := fun w' => Below w1.heap.size w1 w') [11] (by kernel_rfl) (Below.refl _ _).drew (fun hS => ?_)
 refine anyT_take (i := 0) (oi := ⟨some 3, _, _, _, _, _⟩) (v := ?_) rfl (by kernel_rfl) (by kernel_rfl) (by rfl) (fun _ _ _ h => h) (by kernel_rfl) (by kernel_rfl) (Or.inl ⟨by rfl, ?_⟩) hS ?_
 rotate_left 1
 · intro w' hB; have hv := boxStays HV.out hB; have v0 := cell_of_row _ z 0 _ _ _ hv; have v1 := cell_of_row _ z 1 _ _ _ hv; have v2 := cell_of_row _ z 2 _ _ _ hv; clear hv; (try have sl := SL.out w'); (go_simp <;> with_reducible rfl)
 try simp only [Act.put, List.setIfInBounds_toArray, List.set_cons_zero, List.set_cons_succ]
 refine anyT_take (i := 1) (oi := ⟨some 4, _, _, _, _, _⟩) (v := ?_) rfl (by kernel_rfl) (by kernel_rfl) (by rfl) (fun _ _ _ h => h) (by kernel_rfl) (by kernel_rfl) (Or.inl ⟨by rfl, ?_⟩) hS ?_
 rotate_left 1
 · intro w' hB; have hv := boxStays HV.out hB; have v0 := cell_of_row _ z 0 _ _ _ hv; have v1 := cell_of_row _ z 1 _ _ _ hv; have v2 := cell_of_row _ z 2 _ _ _ hv; clear hv; (try have sl := SL.out w'); (go_simp <;> with_reducible rfl)
 try simp only [Act.put, List.setIfInBounds_toArray, List.set_cons_zero, List.set_cons_succ]
 refine anyT_take (i := 3) (oi := ⟨some 6, _, _, _, _, _⟩) (v := ?_) rfl (by kernel_rfl) (by kernel_rfl) (by rfl) (fun _ _ _ h => h) (by kernel_rfl) (by kernel_rfl) (Or.inl ⟨by rfl, ?_⟩) hS ?_
 rotate_left 1
 · intro w' hB; have hv := boxStays HV.out hB; have v0 := cell_of_row _ z 0 _ _ _ hv; have v1 := cell_of_row _ z 1 _ _ _ hv; have v2 := cell_of_row _ z 2 _ _ _ hv; clear hv; (try have sl := SL.out w'); (go_simp <;> with_reducible rfl)
 try simp only [Act.put, List.setIfInBounds_toArray, List.set_cons_zero, List.set_cons_succ]
 refine anyT_take (i := 6) (oi := ⟨some 9, _, _, _, _, _⟩) (v := ?_) rfl (by kernel_rfl) (by kernel_rfl) (by rfl) (fun _ _ _ h => h) (by kernel_rfl) (by kernel_rfl) (Or.inl ⟨by rfl, ?_⟩) hS ?_
 rotate_left 1
 · intro w' hB; have hv := boxStays HV.out hB; have v0 := cell_of_row _ z 0 _ _ _ hv; have v1 := cell_of_row _ z 1 _ _ _ hv; have v2 := cell_of_row _ z 2 _ _ _ hv; clear hv; (try have sl := SL.out w'); (go_simp <;> with_reducible rfl)
 try simp only [Act.put, List.setIfInBounds_toArray, List.set_cons_zero, List.set_cons_succ]
 refine anyT_take (i := 7) (oi := ⟨some 10, _, _, _, _, _⟩) (v := ?_) rfl (by kernel_rfl) (by kernel_rfl) (by rfl) (fun _ _ _ h => h) (by kernel_rfl) (by kernel_rfl) (Or.inl ⟨by rfl, ?_⟩) hS ?_
 rotate_left 1
 · intro w' hB; have hv := boxStays HV.out hB; have v0 := cell_of_row _ z 0 _ _ _ hv; have v1 := cell_of_row _ z 1 _ _ _ hv; have v2 := cell_of_row _ z 2 _ _ _ hv; clear hv; (try have sl := SL.out w'); (go_simp <;> with_reducible rfl)
 try simp only [Act.put, List.setIfInBounds_toArray, List.set_cons_zero, List.set_cons_succ]
 refine anyT_take (i := 8) (oi := ⟨some 11, _, _, _, _, _⟩) (v := ?_) rfl (by kernel_rfl) (by kernel_rfl) (by rfl) (fun _ _ _ h => h) (by kernel_rfl) (by kernel_rfl) (Or.inl ⟨by rfl, ?_⟩) hS ?_
 rotate_left 1
 · intro w' hB; have hv := boxStays HV.out hB; have v0 := cell_of_row _ z 0 _ _ _ hv; have v1 := cell_of_row _ z 1 _ _ _ hv; have v2 := cell_of_row _ z 2 _ _ _ hv; clear hv; (try have sl := SL.out w'); (go_simp <;> with_reducible rfl)
 try simp only [Act.put, List.setIfInBounds_toArray, List.set_cons_zero, List.set_cons_succ]
 refine anyT_ready (rs := [2, 4]) (by kernel_rfl) (by kernel_rfl) (by simp) (AllReadyT.cons (o := ⟨some 5, _, _, _, _, _⟩) rfl (by rfl) (fun K hK => ?way21) (AllReadyT.cons (o := ⟨some 7, _, _, _, _, _⟩) rfl (by rfl) (fun K hK => ?way20) AllReadyT.nil))
 case' way21 =>
  refine if_wanted (ops := #[]) (E := False) (step_app rfl _ _ _ _ rfl w1.heap.size 53 _ 6 64 ET.out (.slice none 0 0) 0 [] rfl ⟨rfl, Or.inl ⟨rfl, rfl⟩⟩ _ n (elsV l) rfl ((HL1.out.below hS rfl).srcN LEN.out (elsV_one _) Tryz.underlying22 c (by decide)) (by unfold maxLen; omega) (by omega) hS.size ?_) rfl
  intro u3 r3 hown hgr hb hor
  refine hK.out _ _ (hS.trans hb) (fun _ => ?_)
  clear hK K
  replace hS := hS.trans hb
  have H3 : Hid (World.ownsRow _ w1.heap.size 53 6 u3 n (elsV l)) := Lib.hid (by simpa using hown)
  (try (replace H8 := Lib.hid (H8.out.below (grown_none hgr) rfl)))
  clear hb hgr hor
  try simp only [Act.put, List.setIfInBounds_toArray, List.set_cons_zero, List.set_cons_succ]
  refine anyT_ready (rs := [4]) (by kernel_rfl) (by kernel_rfl) (by simp) (AllReadyT.cons (o := ⟨some 7, _, _, _, _, _⟩) rfl (by rfl) (fun K hK => ?_) AllReadyT.nil)
  go_simp
  refine hK.out _ _ (hS.alloc hS.size _) (fun _ => ?_)
  clear hK K
  refine anyT_madeK hS hS.size ?_
  have hS0 := hS
  clear hS
  rintro r8 hw hS
  (try (replace H3 := Lib.hid (show World.ownsRow r8 w1.heap.size 53 6 u3 n (elsV l) from by rw [hw]; exact H3.out.alloc _)))
  have H8 := Lib.hid (cellsAt_made (vs := elV markE) hw)
  clear hw hS0
  try simp only [Act.put, List.setIfInBounds_toArray, List.set_cons_zero, List.set_cons_succ]
  refine anyT_ready (rs := [5]) (by kernel_rfl) (by kernel_rfl) (by simp) (AllReadyT.cons (o := ⟨some 8, _, _, _, _, _⟩) rfl (by rfl) (fun K hK => ?_) AllReadyT.nil)
  refine if_wanted (ops := #[]) (E := False) (step_app rfl _ _ _ _ rfl w1.heap.size 53 _ 6 64 ET.out u3 n (elsV l) rfl H3.out _ 1 (elV markE) rfl (H8.out.srcN rfl (fun u hu => elsV_one [markE] u (by simpa [elsV] using hu)) Tryz.underlying22 1 (by decide)) (by unfold maxLen; omega) (by omega) hS.size ?_) rfl
  intro u9 r9 hown hgr hb hor
  refine hK.out _ _ (hS.trans hb) (fun _ => ?_)
  clear hK K
  replace hS := hS.trans hb
  have H9 := hown
  rw [show elsV l ++ elV markE = elsV (l ++ [markE]) from by rw [elsV_append]; simp [elsV]] at H9
  obtain ⟨g9, k9, hu9, hg9, _, hnk, _⟩ := own_form H9 (by omega)
  subst hu9
  have O9 := Lib.hid H9
  have G9 : Hid (w1.heap.size ≤ g9 ∧ n + 1 ≤ k9) := Lib.hid ⟨hg9, hnk⟩
  have SL : Hid (∀ W, (Instr.slice 22 (.slice (some ⟨g9, 0, none⟩) (n + 1) k9) none (some (.int .i64 (n : Int))) none).run Tryz.prog W = .ok (.slice (some ⟨g9, 0, none⟩) n k9) W) := Lib.hid (fun W => run_uptoM W 22 53 Tryz.underlying22 6 (fun w => by kernel_rfl) g9 (n + 1) k9 n (by omega))
  have S9 := Lib.hid hS
  clear H9 hown hg9 hnk
  clear hb hgr hor
  try simp only [Act.put, List.setIfInBounds_toArray, List.set_cons_zero, List.set_cons_succ]
  refine anyT_take (i := 9) (oi := ⟨some 12, _, _, _, _, _⟩) (v := ?_) rfl (by kernel_rfl) (by kernel_rfl) (by rfl) (fun _ _ _ h => h) (by kernel_rfl) (by kernel_rfl) (Or.inl ⟨by rfl, ?_⟩) hS ?_
  rotate_left 1
  · intro w' hB; have hv := boxStays HV.out hB; have v0 := cell_of_row _ z 0 _ _ _ hv; have v1 := cell_of_row _ z 1 _ _ _ hv; have v2 := cell_of_row _ z 2 _ _ _ hv; clear hv; (try have sl := SL.out w'); (go_simp <;> with_reducible rfl)
  try simp only [Act.put, List.setIfInBounds_toArray, List.set_cons_zero, List.set_cons_succ]
  refine anyT_take (i := 10) (oi := ⟨some 13, _, _, _, _, _⟩) (v := ?_) rfl (by kernel_rfl) (by kernel_rfl) (by rfl) (fun _ _ _ h => h) (by kernel_rfl) (by kernel_rfl) (Or.inl ⟨by rfl, ?_⟩) hS ?_
  rotate_left 1
  · intro w' hB; have hv := boxStays HV.out hB; have v0 := cell_of_row _ z 0 _ _ _ hv; have v1 := cell_of_row _ z 1 _ _ _ hv; have v2 := cell_of_row _ z 2 _ _ _ hv; clear hv; (try have sl := SL.out w'); (go_simp <;> with_reducible rfl)
  try simp only [Act.put, List.setIfInBounds_toArray, List.set_cons_zero, List.set_cons_succ]
  refine anyT_tail (by kernel_rfl) ?_
  (try clear hS)
  refine any_one (i := 11) (o := ⟨none, _, _, _, _, _⟩) (by kernel_rfl) rfl (by rfl) (fun K hK => ?_)
  have Y3 := Lib.hid (boxStays HV.out S9.out)
  have y2 := cell_of_row _ z 2 _ _ _ Y3.out
  have f2 := frozen_of_row _ z 2 _ _ Y3.out
  go_simp
  refine hK.out _ _ ?_
  clear hK K
  try simp only [Act.put, List.setIfInBounds_toArray, List.set_cons_zero, List.set_cons_succ]
  refine wpAny_done (by kernel_rfl) (NoPanic.normal ?_) _
 case' way20 =>
  go_simp
  refine hK.out _ _ (hS.alloc hS.size _) (fun _ => ?_)
  clear hK K
  refine anyT_madeK hS hS.size ?_
  have hS0 := hS
  clear hS
  rintro r8 hw hS
  (try (replace H3 := Lib.hid (show World.ownsRow r8 w1.heap.size 53 6 u3 n (elsV l) from by rw [hw]; exact H3.out.alloc _)))
  have H8 := Lib.hid (cellsAt_made (vs := elV markE) hw)
  clear hw hS0
  try simp only [Act.put, List.setIfInBounds_toArray, List.set_cons_zero, List.set_cons_succ]
  refine anyT_ready (rs := [2]) (by kernel_rfl) (by kernel_rfl) (by simp) (AllReadyT.cons (o := ⟨some 5, _, _, _, _, _⟩) rfl (by rfl) (fun K hK => ?_) AllReadyT.nil)
  refine if_wanted (ops := #[]) (E := False) (step_app rfl _ _ _ _ rfl w1.heap.size 53 _ 6 64 ET.out (.slice none 0 0) 0 [] rfl ⟨rfl, Or.inl ⟨rfl, rfl⟩⟩ _ n (elsV l) rfl ((HL1.out.below hS rfl).srcN LEN.out (elsV_one _) Tryz.underlying22 c (by decide)) (by unfold maxLen; omega) (by omega) hS.size ?_) rfl
  intro u3 r3 hown hgr hb hor
  refine hK.out _ _ (hS.trans hb) (fun _ => ?_)
  clear hK K
  replace hS := hS.trans hb
  have H3 : Hid (World.ownsRow _ w1.heap.size 53 6 u3 n (elsV l)) := Lib.hid (by simpa using hown)
  (try (replace H8 := Lib.hid (H8.out.below (grown_none hgr) rfl)))
  clear hb hgr hor
  try simp only [Act.put, List.setIfInBounds_toArray, List.set_cons_zero, List.set_cons_succ]
  refine anyT_ready (rs := [5]) (by kernel_rfl) (by kernel_rfl) (by simp) (AllReadyT.cons (o := ⟨some 8, _, _, _, _, _⟩) rfl (by rfl) (fun K hK => ?_) AllReadyT.nil)
  refine if_wanted (ops := #[]) (E := False) (step_app rfl _ _ _ _ rfl w1.heap.size 53 _ 6 64 ET.out u3 n (elsV l) rfl H3.out _ 1 (elV markE) rfl (H8.out.srcN rfl (fun u hu => elsV_one [markE] u (by simpa [elsV] using hu)) Tryz.underlying22 1 (by decide)) (by unfold maxLen; omega) (by omega) hS.size ?_) rfl
  intro u9 r9 hown hgr hb hor
  refine hK.out _ _ (hS.trans hb) (fun _ => ?_)
  clear hK K
  replace hS := hS.trans hb
  have H9 := hown
  rw [show elsV l ++ elV markE = elsV (l ++ [markE]) from by rw [elsV_append]; simp [elsV]] at H9
  obtain ⟨g9, k9, hu9, hg9, _, hnk, _⟩ := own_form H9 (by omega)
  subst hu9
  have O9 := Lib.hid H9
  have G9 : Hid (w1.heap.size ≤ g9 ∧ n + 1 ≤ k9) := Lib.hid ⟨hg9, hnk⟩
  have SL : Hid (∀ W, (Instr.slice 22 (.slice (some ⟨g9, 0, none⟩) (n + 1) k9) none (some (.int .i64 (n : Int))) none).run Tryz.prog W = .ok (.slice (some ⟨g9, 0, none⟩) n k9) W) := Lib.hid (fun W => run_uptoM W 22 53 Tryz.underlying22 6 (fun w => by kernel_rfl) g9 (n + 1) k9 n (by omega))
  have S9 := Lib.hid hS
  clear H9 hown hg9 hnk
  clear hb hgr hor
  try simp only [Act.put, List.setIfInBounds_toArray, List.set_cons_zero, List.set_cons_succ]
  refine anyT_take (i := 9) (oi := ⟨some 12, _, _, _, _, _⟩) (v := ?_) rfl (by kernel_rfl) (by kernel_rfl) (by rfl) (fun _ _ _ h => h) (by kernel_rfl) (by kernel_rfl) (Or.inl ⟨by rfl, ?_⟩) hS ?_
  rotate_left 1
  · intro w' hB; have hv := boxStays HV.out hB; have v0 := cell_of_row _ z 0 _ _ _ hv; have v1 := cell_of_row _ z 1 _ _ _ hv; have v2 := cell_of_row _ z 2 _ _ _ hv; clear hv; (try have sl := SL.out w'); (go_simp <;> with_reducible rfl)
  try simp only [Act.put, List.setIfInBounds_toArray, List.set_cons_zero, List.set_cons_succ]
  refine anyT_take (i := 10) (oi := ⟨some 13, _, _, _, _, _⟩) (v := ?_) rfl (by kernel_rfl) (by kernel_rfl) (by rfl) (fun _ _ _ h => h) (by kernel_rfl) (by kernel_rfl) (Or.inl ⟨by rfl, ?_⟩) hS ?_
  rotate_left 1
  · intro w' hB; have hv := boxStays HV.out hB; have v0 := cell_of_row _ z 0 _ _ _ hv; have v1 := cell_of_row _ z 1 _ _ _ hv; have v2 := cell_of_row _ z 2 _ _ _ hv; clear hv; (try have sl := SL.out w'); (go_simp <;> with_reducible rfl)
  try simp only [Act.put, List.setIfInBounds_toArray, List.set_cons_zero, List.set_cons_succ]
  refine anyT_tail (by kernel_rfl) ?_
  (try clear hS)
  refine any_one (i := 11) (o := ⟨none, _, _, _, _, _⟩) (by kernel_rfl) rfl (by rfl) (fun K hK => ?_)
  have Y3 := Lib.hid (boxStays HV.out S9.out)
  have y2 := cell_of_row _ z 2 _ _ _ Y3.out
  have f2 := frozen_of_row _ z 2 _ _ Y3.out
  go_simp
  refine hK.out _ _ ?_
  clear hK K
  try simp only [Act.put, List.setIfInBounds_toArray, List.set_cons_zero, List.set_cons_succ]
  refine wpAny_done (by kernel_rfl) (NoPanic.normal ?_) _
 all_goals
  clear y2 f2
  have ZR : Hid ((r9.setCell ⟨z, 2, none⟩ (.slice (some ⟨g9, 0, none⟩) n k9)).heap[z]? = some (.cells #[.int .i64 k, .int .i64 m, .slice (some ⟨g9, 0, none⟩) n k9] 79 (0, 0))) := Lib.hid (by have := heap_setCell_same r9 z 2 _ _ (.slice (some ⟨g9, 0, none⟩) n k9) Y3.out; simpa using this)
  have RR : Hid ((r9.setCell ⟨z, 2, none⟩ (.slice (some ⟨g9, 0, none⟩) n k9)).heap[z + 1]? = some (.cells #[.int .i64 0, .int .i64 0, .slice none 0 0] 79 (0, 0))) := Lib.hid ((Below.heap_setCell _ _ _ _ (by simp)).trans (boxStays HR.out S9.out))
  have OF := Lib.hid (own_grown O9.out (grown_set r9 z 2 (.slice (some ⟨g9, 0, none⟩) n k9)) (fun k' hk' e => by have h1 := G9.out.1; have h2 := ZL.out.2; have h3 := Option.some.inj (show some g9 = some k' from hk'); have h4 := Option.some.inj e; omega))
  have BF : Hid (Below w.heap.size w (r9.setCell ⟨z, 2, none⟩ (.slice (some ⟨g9, 0, none⟩) n k9))) := Lib.hid ((BW.out.trans (S9.out.mono BW.out.size)).setCell (p := ⟨z, 2, none⟩) ZL.out.1 _)
  clear O9 Y3 H8 H3 hown
  generalize r9.setCell ⟨z, 2, none⟩ (.slice (some ⟨g9, 0, none⟩) n k9) = w9 at *
  have c0 := cell_of_row _ z 0 _ _ _ ZR.out
  have c1 := cell_of_row _ z 1 _ _ _ ZR.out
  have c2 := cell_of_row _ z 2 _ _ _ ZR.out
  go_wp2_with (refine wpList_store_row rfl 79 (.tmp 2) (.tmp 14) rfl (z + 1) #[.int .i64 k, .int .i64 m, .slice (some ⟨g9, 0, none⟩) n k9] rfl rfl 79 _ RR.out (by kernel_rfl) rfl (by simp [Value.oneCell']) ?_)
  clear c0 c1 c2
  have hx := setRow_heap _ _ _ #[.int .i64 k, .int .i64 m, .slice (some ⟨g9, 0, none⟩) n k9] _ _ RR.out
  have r0 := cell_of_row _ _ 0 _ _ _ hx
  have r1 := cell_of_row _ _ 1 _ _ _ hx
  have r2 := cell_of_row _ _ 2 _ _ _ hx
  refine bodyPost_ret (v := .agg #[.int .i64 k, .int .i64 m, .slice (some ⟨g9, 0, none⟩) n k9]) (by simp [results, Tryz.results33, go_sem, r0, r1, r2]) rfl ?_
  exact ⟨g9, k9, rfl, own_mono (own_grown OF.out (grown_setRow w9 (z + 1) _) (fun k' hk' e => by have h1 := G9.out.1; have h2 := ZL.out.2; have h3 := Option.some.inj (show some g9 = some k' from hk'); have h4 := Option.some.inj e; omega)) BW.out.size, below_setRow BF.out (by have := ZL.out.1; omega) _⟩
end Go.Proofs.YtjlliohjeiclaaaGreatDoor
namespace Go.Proofs.YtjlliohjeiclaaaGreatDoor
namespace Kn
open St Pm
def insU (t : ByteArray) : List ByteArray → List ByteArray
 | [] => [t]
 | x :: r => if klt x t = true then x :: insU t r else if x = t then x :: r else t :: x :: r
def setT (l : List ByteArray) : List ByteArray := l.foldl (fun acc t => insU t acc) []
def SrtT (l : List ByteArray) : Prop := l.Pairwise fun a b => klt a b = true
theorem mem_insU (t : ByteArray) : ∀ (l : List ByteArray) (x : ByteArray), x ∈ insU t l ↔ x = t ∨ x ∈ l
 | [], x => by simp [insU]
 | y :: r, x => by
  unfold insU
  split
  · rw [List.mem_cons, mem_insU t r x, List.mem_cons]
    constructor
    · rintro (h | h | h)
      · exact .inr (.inl h)
      · exact .inl h
      · exact .inr (.inr h)
    · rintro (h | h | h)
      · exact .inr (.inl h)
      · exact .inl h
      · exact .inr (.inr h)
  · split
    · rename_i h
      subst h
      rw [List.mem_cons]
      constructor
      · rintro (h | h)
        · exact .inl h
        · exact .inr (.inr h)
      · rintro (h | h | h)
        · exact .inl h
        · exact .inl h
        · exact .inr h
    · simp only [List.mem_cons]
theorem srt_insU (t : ByteArray) : ∀ (l : List ByteArray), SrtT l → SrtT (insU t l)
 | [], _ => by unfold insU; exact List.pairwise_singleton _ _
 | y :: r, h => by
  obtain ⟨h1, h2⟩ := List.pairwise_cons.1 h
  unfold insU
  split
  · rename_i hy
    refine List.pairwise_cons.2 ⟨fun x hx => ?_, srt_insU t r h2⟩
    rcases (mem_insU t r x).1 hx with rfl | hx
    · exact hy
    · exact h1 x hx
  · split
    · exact h
    · rename_i hn he
      have hk : klt t y = true := by
       cases hty : klt t y with
       | true => rfl
       | false => exact absurd (klt_tri (by simpa using hn) hty) he
      refine List.pairwise_cons.2 ⟨fun x hx => ?_, h⟩
      rcases List.mem_cons.1 hx with rfl | hx
      · exact hk
      · exact klt_trans hk (h1 x hx)
theorem setT_go : ∀ (l acc : List ByteArray), SrtT acc → SrtT (l.foldl (fun acc t => insU t acc) acc) ∧ ∀ x, x ∈ l.foldl (fun acc t => insU t acc) acc ↔ x ∈ acc ∨ x ∈ l
 | [], acc, h => ⟨h, fun x => by simp⟩
 | t :: l, acc, h => by
  obtain ⟨h1, h2⟩ := setT_go l (insU t acc) (srt_insU t acc h)
  refine ⟨h1, fun x => (h2 x).trans ?_⟩
  rw [mem_insU, List.mem_cons]
  constructor
  · rintro ((h | h) | h)
    · exact .inr (.inl h)
    · exact .inl h
    · exact .inr (.inr h)
  · rintro (h | h | h)
    · exact .inl (.inr h)
    · exact .inl (.inl h)
    · exact .inr h
theorem setT_srt (l : List ByteArray) : SrtT (setT l) := (setT_go l [] List.Pairwise.nil).1
theorem setT_mem (l : List ByteArray) (x : ByteArray) : x ∈ setT l ↔ x ∈ l := by
 have := (setT_go l [] List.Pairwise.nil).2 x
 unfold setT
 rw [this]
 simp
theorem setT_snoc (l : List ByteArray) (t : ByteArray) : setT (l ++ [t]) = insU t (setT l) := by unfold setT; rw [List.foldl_append]; rfl
theorem srtT_ext : ∀ (l m : List ByteArray), SrtT l → SrtT m → (∀ x, x ∈ l ↔ x ∈ m) → l = m
 | [], [], _, _, _ => rfl
 | [], y :: m, _, _, h => by have := (h y).2 List.mem_cons_self; cases this
 | x :: l, [], _, _, h => by have := (h x).1 List.mem_cons_self; cases this
 | x :: l, y :: m, hl, hm, h => by
  obtain ⟨l1, l2⟩ := List.pairwise_cons.1 hl
  obtain ⟨m1, m2⟩ := List.pairwise_cons.1 hm
  have ir : ∀ z, ¬ klt z z = true := fun z hz => by rw [klt_irrefl] at hz; cases hz
  have e : x = y := by
   rcases List.mem_cons.1 ((h x).1 List.mem_cons_self) with e | hx
   · exact e
   · rcases List.mem_cons.1 ((h y).2 List.mem_cons_self) with e | hy
     · exact e.symm
     · exact absurd (klt_trans (l1 _ hy) (m1 _ hx)) (ir _)
  subst e
  congr 1
  refine srtT_ext l m l2 m2 fun z => ⟨fun hz => ?_, fun hz => ?_⟩
  · rcases List.mem_cons.1 ((h z).1 (List.mem_cons_of_mem _ hz)) with rfl | h2
    · exact absurd (l1 _ hz) (ir _)
    · exact h2
  · rcases List.mem_cons.1 ((h z).2 (List.mem_cons_of_mem _ hz)) with rfl | h2
    · exact absurd (m1 _ hz) (ir _)
    · exact h2
theorem setT_len (l : List ByteArray) : (setT l).length ≤ l.length := by
 have : ∀ (l acc : List ByteArray), (l.foldl (fun acc t => insU t acc) acc).length ≤ acc.length + l.length := by
  intro l
  induction l with
  | nil => intro acc; simp
  | cons t l ih =>
   intro acc
   have h1 := ih (insU t acc)
   have h2 : ∀ m : List ByteArray, (insU t m).length ≤ m.length + 1 := by
    intro m
    induction m with
    | nil => simp [insU]
    | cons y r ih2 =>
     unfold insU
     split
     · simp; omega
     · split <;> simp
   have h3 := h2 acc
   simp only [List.foldl_cons, List.length_cons]
   omega
 simpa [setT] using this l []
def lstB (l : List ByteArray) : List (List UInt8) := l.map fun t => t.data.toList
def byB (l : List (List UInt8)) : List ByteArray := l.map fun t => ⟨t.toArray⟩
theorem compact_mem {α : Type} [Inhabited α] [DecidableEq α] (l : List α) (x : α) : x ∈ Lib.compact l ↔ x ∈ l := by
 unfold Lib.compact Lib.compactUpTo
 rw [List.mem_map]
 constructor
 · rintro ⟨i, hi, rfl⟩
   have h1 := List.mem_range.1 (List.mem_filter.1 hi).1
   rw [getElem!_pos l.toArray i (by simpa using h1)]
   exact List.getElem_mem (l := l) h1
 · intro hx
   obtain ⟨i, hi, rfl⟩ := List.getElem_of_mem hx
   clear hx
   induction i with
   | zero => exact ⟨0, List.mem_filter.2 ⟨List.mem_range.2 hi, by simp [Lib.keeps]⟩, by rw [getElem!_pos l.toArray 0 (by simpa using hi)]; rfl⟩
   | succ i ih =>
    have hi0 : i < l.length := by omega
    by_cases h : l[i + 1] = l[i]
    · obtain ⟨j, h1, h2⟩ := ih hi0
      exact ⟨j, h1, h2.trans h.symm⟩
    · refine ⟨i + 1, List.mem_filter.2 ⟨List.mem_range.2 hi, ?_⟩, by rw [getElem!_pos l.toArray (i + 1) (by simpa using hi)]; rfl⟩
      unfold Lib.keeps
      rw [decide_eq_true_eq]
      refine .inr ?_
      rw [getElem!_pos l.toArray (i + 1) (by simpa using hi), Nat.add_sub_cancel, getElem!_pos l.toArray i (by simpa using hi0)]
      exact h
theorem compact_srt (l : List (List UInt8)) (hl : l.Pairwise fun x y => x ≤ y) : (Lib.compact l).Pairwise fun x y => x < y := by
 unfold Lib.compact Lib.compactUpTo
 rw [List.pairwise_map]
 have hr : (List.range l.length).Pairwise (fun i j => i < j) := List.pairwise_lt_range
 refine List.Pairwise.imp_of_mem ?_ (hr.filter _)
 intro i j hi hj hij
 have h1 := List.mem_range.1 (List.mem_filter.1 hj).1
 have h2 := (List.mem_filter.1 hj).2
 unfold Lib.keeps at h2
 rw [decide_eq_true_eq] at h2
 have hj1 : j - 1 < l.length := by omega
 rw [getElem!_pos l.toArray j (by simpa using h1), getElem!_pos l.toArray (j - 1) (by simpa using hj1)] at h2
 rw [getElem!_pos l.toArray j (by simpa using h1), getElem!_pos l.toArray i (by simp; omega)]
 simp only [List.getElem_toArray] at h2 ⊢
 have h3 : l[j] ≠ l[j - 1] := h2.resolve_left (by omega)
 have hp := List.pairwise_iff_getElem.1 hl
 have h4 : l[j - 1] ≤ l[j] := hp (j - 1) j hj1 h1 (by omega)
 have h5 : l[j - 1] < l[j] := by
  refine Classical.byContradiction fun hn => h3 (List.le_antisymm (List.not_lt.1 hn) h4)
 by_cases hc : i = j - 1
 · simp only [hc]; exact h5
 · have h6 : l[i]'(by omega) ≤ l[j - 1] := hp i (j - 1) (by omega) hj1 (by omega)
   exact List.lt_of_le_of_lt h6 h5
end Kn
open Kn St Pm
theorem show_set (l : List ByteArray) : byB (Lib.compact ((lstB l).mergeSort fun x y => decide (x ≤ y))) = setT l := by
 refine srtT_ext _ _ ?_ (setT_srt l) fun x => ?_
 · unfold SrtT byB
   rw [List.pairwise_map]
   refine (compact_srt _ ?_).imp fun {a b} h => (klt_iff _ _).2 (by simpa using h)
   have h := List.pairwise_mergeSort (le := fun x y : List UInt8 => decide (x ≤ y)) (fun a b c h1 h2 => by simp only [decide_eq_true_eq] at *; exact List.le_trans h1 h2) (fun a b => by simp only [Bool.or_eq_true, decide_eq_true_eq]; exact List.le_total a b) (lstB l)
   exact h.imp fun {a b} hab => by simpa using hab
 · rw [setT_mem]
   unfold byB
   rw [List.mem_map]
   constructor
   · rintro ⟨y, hy, rfl⟩
     rw [compact_mem, List.mem_mergeSort] at hy
     obtain ⟨t, ht, rfl⟩ := List.mem_map.1 hy
     simpa using ht
   · intro hx
     exact ⟨x.data.toList, by rw [compact_mem, List.mem_mergeSort]; exact List.mem_map.2 ⟨x, hx, rfl⟩, by simp⟩
end Go.Proofs.YtjlliohjeiclaaaGreatDoor
namespace Go.Proofs.YtjlliohjeiclaaaGreatDoor
open Go.RowKit Go.Shelf Go.Sort St Pm Kn
def lay190_ren : Go.Shelf.Ren := ⟨fun | 125 => 125 | 128 => 166 | 129 => 167 | 190 => 82 | 258 => 124 | 302 => 157 | 303 => 158 | 304 => 159 | 305 => 160 | 306 => 161 | 307 => 162 | 308 => 163 | 309 => 164 | 310 => 165 | 329 => 190 | 330 => 191 | 333 => 189 | 334 => 192 | 335 => 193 | 336 => 194 | 344 => 211 | n => n, fun | 0 => 0 | 3 => 3 | 4 => 4 | 5 => 5 | 9 => 9 | 31 => 63 | 46 => 186 | 51 => 222 | 53 => 224 | 131 => 219 | 182 => 214 | 183 => 215 | 218 => 244 | 222 => 248 | 228 => 266 | 229 => 267 | n => n, fun n => n⟩
theorem lay190 : Go.Proofs.Lays.n190 Tryz.prog lay190_ren := {
 mixed := by kernel_rfl
 f125 := Tryz.func125.trans (congrArg some (by kernel_rfl))
 f128 := Tryz.func166.trans (congrArg some (by kernel_rfl))
 f129 := Tryz.func167.trans (congrArg some (by kernel_rfl))
 f190 := Tryz.func82.trans (congrArg some (by kernel_rfl))
 f258 := Tryz.func124.trans (congrArg some (by kernel_rfl))
 f302 := Tryz.func157.trans (congrArg some (by kernel_rfl))
 f303 := Tryz.func158.trans (congrArg some (by kernel_rfl))
 f304 := Tryz.func159.trans (congrArg some (by kernel_rfl))
 f305 := Tryz.func160.trans (congrArg some (by kernel_rfl))
 f306 := Tryz.func161.trans (congrArg some (by kernel_rfl))
 f307 := Tryz.func162.trans (congrArg some (by kernel_rfl))
 f308 := Tryz.func163.trans (congrArg some (by kernel_rfl))
 f309 := Tryz.func164.trans (congrArg some (by kernel_rfl))
 f310 := Tryz.func165.trans (congrArg some (by kernel_rfl))
 f329 := Tryz.func190.trans (congrArg some (by kernel_rfl))
 f330 := Tryz.func191.trans (congrArg some (by kernel_rfl))
 f333 := Tryz.func189.trans (congrArg some (by kernel_rfl))
 f334 := Tryz.func192.trans (congrArg some (by kernel_rfl))
 f335 := Tryz.func193.trans (congrArg some (by kernel_rfl))
 f336 := Tryz.func194.trans (congrArg some (by kernel_rfl))
 f344 := Tryz.func211.trans (congrArg some (by kernel_rfl))
 t0 := Tryz.underlying0
 a0 := Tryz.isAgg0
 z0 := Tryz.sizeOf0
 v0 := Tryz.zeroValue0
 t3 := Tryz.underlying3
 a3 := Tryz.isAgg3
 z3 := Tryz.sizeOf3
 v3 := Tryz.zeroValue3
 t4 := Tryz.underlying4
 a4 := Tryz.isAgg4
 z4 := Tryz.sizeOf4
 v4 := Tryz.zeroValue4
 t5 := Tryz.underlying5
 a5 := Tryz.isAgg5
 z5 := Tryz.sizeOf5
 v5 := Tryz.zeroValue5
 t9 := Tryz.underlying9
 a9 := Tryz.isAgg9
 z9 := Tryz.sizeOf9
 v9 := Tryz.zeroValue9
 t31 := Tryz.underlying63
 a31 := Tryz.isAgg63
 z31 := Tryz.sizeOf63
 v31 := Tryz.zeroValue63
 t46 := Tryz.underlying186
 a46 := Tryz.isAgg186
 z46 := Tryz.sizeOf186
 v46 := Tryz.zeroValue186
 t51 := Tryz.underlying222
 a51 := Tryz.isAgg222
 z51 := Tryz.sizeOf222
 v51 := Tryz.zeroValue222
 t53 := Tryz.underlying224
 a53 := Tryz.isAgg224
 z53 := Tryz.sizeOf224
 v53 := Tryz.zeroValue224
 t131 := Tryz.underlying219
 a131 := Tryz.isAgg219
 z131 := Tryz.sizeOf219
 v131 := Tryz.zeroValue219
 t182 := Tryz.underlying214
 a182 := Tryz.isAgg214
 z182 := Tryz.sizeOf214
 v182 := Tryz.zeroValue214
 t183 := Tryz.underlying215
 a183 := Tryz.isAgg215
 z183 := Tryz.sizeOf215
 v183 := Tryz.zeroValue215
 t218 := Tryz.underlying244
 a218 := Tryz.isAgg244
 z218 := Tryz.sizeOf244
 v218 := Tryz.zeroValue244
 t222 := Tryz.underlying248
 a222 := Tryz.isAgg248
 z222 := Tryz.sizeOf248
 v222 := Tryz.zeroValue248
 t228 := Tryz.underlying266
 a228 := Tryz.isAgg266
 z228 := Tryz.sizeOf266
 v228 := Tryz.zeroValue266
 t229 := Tryz.underlying267
 a229 := Tryz.isAgg267
 z229 := Tryz.sizeOf267
 v229 := Tryz.zeroValue267
}
def lay194_ren : Go.Shelf.Ren := ⟨fun | 194 => 83 | n => n, fun | 0 => 0 | 3 => 3 | 4 => 4 | 9 => 9 | 31 => 63 | n => n, fun n => n⟩
theorem lay194 : Go.Proofs.Lays.n194 Tryz.prog lay194_ren := {
 mixed := by kernel_rfl
 f194 := Tryz.func83.trans (congrArg some (by kernel_rfl))
 t0 := Tryz.underlying0
 a0 := Tryz.isAgg0
 z0 := Tryz.sizeOf0
 v0 := Tryz.zeroValue0
 t3 := Tryz.underlying3
 a3 := Tryz.isAgg3
 z3 := Tryz.sizeOf3
 v3 := Tryz.zeroValue3
 t4 := Tryz.underlying4
 a4 := Tryz.isAgg4
 z4 := Tryz.sizeOf4
 v4 := Tryz.zeroValue4
 t9 := Tryz.underlying9
 a9 := Tryz.isAgg9
 z9 := Tryz.sizeOf9
 v9 := Tryz.zeroValue9
 t31 := Tryz.underlying63
 a31 := Tryz.isAgg63
 z31 := Tryz.sizeOf63
 v31 := Tryz.zeroValue63
}
theorem lstB_toArray (l : List ByteArray) (j : Nat) (h : j < l.length) : encStr ((lstB l).toArray[j]!) = .string l[j] := by
 have hl : j < (lstB l).length := by simpa [lstB] using h
 rw [getElem!_pos _ j (by simpa using hl)]
 simp [lstB]
theorem holds_ownT {w : World} {base n g c : Nat} {e : TypeId} {l : List ByteArray} (h : w.ownsRow base e 1 (.slice (some ⟨g, 0, none⟩) n c) n (txV l)) : Holds encStr w g 0 (lstB l).toArray := by
 intro j hj
 have hj2 : j < l.length := by simpa [lstB] using hj
 have hl : j < (txV l).length := by simpa [txV] using hj2
 obtain ⟨h1, h2⟩ := own_cellM h j hl
 rw [Nat.zero_add]
 refine ⟨?_, h2⟩
 rw [h1, lstB_toArray l j hj2]
 simp [txV]
theorem cells_holdsT {w : World} {g : Nat} {zs more : List (List UInt8)} (h : Holds encStr w g 0 (zs ++ more).toArray) : CellsAt w (some ⟨g, 0, none⟩) (txV (byB zs)) := by
 intro j hj
 have hj2 : j < zs.length := by simpa [txV, byB] using hj
 have h1 := (h j (by simp; omega)).1
 refine ⟨g, 0, rfl, ?_⟩
 rw [h1, getElem!_pos _ j (by simp; omega)]
 simp [txV, byB, List.getElem_append_left hj2]
theorem putRow_grown (w : World) (g n : Nat) (d : Array (List UInt8)) (os : Array Obj) : w.grownBy (grow (putRow encStr (Sort.ahead w n) g 0 d) os) (some g) := by
 refine ⟨rfl, rfl, rfl, ?_, fun k hk hne => ?_⟩
 · simp [Sort.grow, putRow, mapBlock]
 · have hne' : g ≠ k := fun e => hne (by rw [e])
   show (((Sort.ahead w n).heap.modify g _) ++ os)[k]? = _
   rw [Array.getElem?_append_left (by simpa using hk), Array.getElem?_modify, if_neg hne']
   rfl
theorem sl_SortTx (l : List ByteArray) (g n c base : Nat) (e0 : TypeId) (w : World) (hn : n = l.length) (hb : n ≤ 1000000) (hown : w.ownsRow base e0 1 (.slice (some ⟨g, 0, none⟩) n c) n (txV l)) :
 Calls Tryz.prog 82 #[.slice (some ⟨g, 0, none⟩) n c] w fun e w' => e = .returned (.tuple #[]) ∧
  Holds encStr w' g 0 ((lstB l).mergeSort fun x y => decide (x ≤ y)).toArray ∧ w.grownBy w' (some g) := by
 have hlen : (lstB l).length = n := by rw [hn]; simp [lstB]
 have hH := holds_ownT hown
 have hblk : g < w.heap.size := (hown.lt _ rfl).2
 have h := Any.slices_Sort_string lay190 g 0 c (lstB l) w hH hblk (by omega)
 rw [hlen] at h
 refine h.mono ?_
 rintro e w' ⟨rfl, m, os, rfl⟩
 refine ⟨rfl, ?_, putRow_grown w g m _ os⟩
 exact holds_grow encStr _ os g 0 _ (by simpa using hblk) (holds_putRow encStr _ g 0 _ _ (holds_ahead encStr w m g 0 _ hH) (by simp))
theorem sl_CompactTx (zs : List (List UInt8)) (g n c : Nat) (w : World) (hn : zs.length = n) (hb : n ≤ 1000000) (hc : n ≤ c) (hH : Holds encStr w g 0 zs.toArray) :
 Calls Tryz.prog 83 #[.slice (some ⟨g, 0, none⟩) n c] w fun e w' => e = .returned (.slice (some ⟨g, 0, none⟩) (byB (Lib.compact zs)).length c) ∧
  CellsAt w' (some ⟨g, 0, none⟩) (txV (byB (Lib.compact zs))) ∧ w.grownBy w' (some g) := by
 subst hn
 have hle : (Lib.compact zs).length ≤ zs.length := by
  unfold Lib.compact Lib.compactUpTo
  rw [List.length_map]
  exact Nat.le_trans (List.length_filter_le _ _) (by simp)
 refine (Any.slices_Compact_string lay194 g 0 c zs w hH (by omega) hc).mono ?_
 rintro e w' ⟨rfl, q, rfl⟩
 refine ⟨by simp [byB], cells_holdsT (holds_putRow encStr _ g 0 _ _ (holds_ahead encStr w q g 0 _ hH) (by simp; omega)), ?_⟩
 have h := putRow_grown w g q (Lib.compact zs ++ List.replicate (zs.length - (Lib.compact zs).length) []).toArray #[]
 rwa [grow_empty] at h
end Go.Proofs.YtjlliohjeiclaaaGreatDoor
namespace Go.Proofs.YtjlliohjeiclaaaGreatDoor
open Go.RowKit St Pm Ku Kn
namespace Kn
def showG (k : Int) (l : List Ev) : List ByteArray := if k = 2 then setT (l.map (·.2)) else l.map (·.2)
theorem showG_len (k : Int) (l : List Ev) : (showG k l).length ≤ l.length := by
 unfold showG
 split
 · have := setT_len (l.map (·.2)); rwa [List.length_map] at this
 · rw [List.length_map]; exact Nat.le_refl _
def ShowOut (w w' : World) (k m : Int) (l : List Ev) (e : Ending) : Prop :=
 ((valG k m l = false ∧ e = .returned (.tuple #[.int .i64 0, .slice none 0 0, .int .i64 2])) ∨
  (valG k m l = true ∧ ∃ (a : Option Addr) (n c : Nat), e = .returned (.tuple #[.int .i64 m, .slice a n c, .int .i64 0]) ∧ n = (showG k l).length ∧ CellsAt w' a (txV (showG k l)) ∧ ∀ ad, a = some ad → w.heap.size ≤ ad.block)) ∧ Below w.heap.size w w'
end Kn
open Kn
theorem sl_SortTxNil (a : Option Addr) (c : Nat) (w : World) : Calls Tryz.prog 82 #[.slice a 0 c] w fun e w' => e = .returned (.tuple #[]) ∧ w' = w := Any.slices_Sort_string_none lay190 a c w
theorem sl_CompactTxNil (a : Option Addr) (c : Nat) (w : World) : Calls Tryz.prog 83 #[.slice a 0 c] w fun e w' => e = .returned (.slice a 0 c) ∧ w' = w := Any.slices_Compact_string_empty lay194 a c w
theorem own_from {w w0 : World} {base size n : Nat} {e : TypeId} {a : Option Addr} {k c : Nat} {xs : List Value} (h : w.ownsRow base e size (.slice a k c) n xs) (hb : w0.heap.size ≤ base) : ∀ ad, a = some ad → w0.heap.size ≤ ad.block := fun ad had => by
 subst had
 rcases h.2 with ⟨h0, _⟩ | ⟨g, cap, cur, h0, h1, _⟩
 · cases h0
 · cases h0; exact Nat.le_trans hb h1
theorem sxN : ElemT Tryz.prog 63 9 (.string ⟨#[]⟩) 1 16 := ElemT.mk Tryz.underlying63 (by kernel_rfl) (by simp [Value.cells])
set_option maxRecDepth 100000 in
set_option maxHeartbeats 8000000 in
theorem kn_Show (k m : Int) (l : List Ev) (a : Option Addr) (n c : Nat) (w : World) (hl : CellsAt w a (elsV l)) (hn : n = l.length) (hb : n ≤ 100000) (hz : ∀ e ∈ l, e.1.l.size ≤ 9223372036854775807) :
 Calls Tryz.prog 35 #[.agg #[.int .i64 k, .int .i64 m, .slice a n c]] w fun e w' => ShowOut w w' k m l e := by
 have HL := Lib.hid hl
 have HN := Lib.hid hn
 have HZ := Lib.hid hz
 have ST := Lib.hid sxN
 clear hl hn hz
 have HC : Hid (Chain [w] w) := Lib.hid (Chain.one w)
 go_enter Tryz.func35, Tryz.ntmps35
 go_upto_region 1 with (fail)
 obtain ⟨z, hz⟩ : ∃ c, w.heap.size = c := ⟨_, rfl⟩
 try rw [hz]
 obtain ⟨w1, hw1⟩ : ∃ X, allocs w [.cells #[.int .i64 k, .int .i64 m, .slice a n c] 79] = X := ⟨_, rfl⟩
 rw [show w.alloc (.cells #[.int .i64 k, .int .i64 m, .slice a n c] 79) = w1 from hw1]
 have hb : Below w.heap.size w w1 := by rw [← hw1]; exact allocs_below _ _
 have HV : Hid (w1.heap[z]? = some (.cells #[.int .i64 k, .int .i64 m, .slice a n c] 79 (0, 0))) := Lib.hid (by have := allocs_get [.cells #[.int .i64 k, .int .i64 m, .slice a n c] 79] w 0 _ rfl; rw [hw1, hz] at this; exact this)
 have Sz : Hid (w.heap.size = z) := Lib.hid hz
 replace HC := Lib.hid (HC.out.push hb)
 clear hb hw1 hz
 have kV0 := cell_of_row _ _ 0 _ _ _ HV.out
 have kV1 := cell_of_row _ _ 1 _ _ _ HV.out
 have kV2 := cell_of_row _ _ 2 _ _ _ HV.out
 go_wp2_with fail
 refine (kn_Value k m l a n c _ (HL.out.below (HC.out.to w (by simp)) rfl) HN.out (by omega) HZ.out).mono ?_
 rintro e w2 ⟨rfl, hb⟩
 clear kV0 kV1 kV2
 replace HC := Lib.hid (HC.out.push hb)
 clear hb
 obtain ⟨v1, h1⟩ : ∃ b, valG k m l = b := ⟨_, rfl⟩
 rw [h1]
 have H1 := Lib.hid h1
 clear h1
 cases v1
 case false =>
  have kV0 := cell_of_row _ _ 0 _ _ _ (boxStays HV.out (HC.out.to w1 (by simp)))
  have kV1 := cell_of_row _ _ 1 _ _ _ (boxStays HV.out (HC.out.to w1 (by simp)))
  have kV2 := cell_of_row _ _ 2 _ _ _ (boxStays HV.out (HC.out.to w1 (by simp)))
  go_wp2_with fail
  refine bodyPost_ret (v := .tuple #[.int .i64 0, .slice none 0 0, .int .i64 2]) (by simp [results, Tryz.results35, go_sem]) rfl ?_
  exact ⟨.inl ⟨H1.out, rfl⟩, (HC.out.to w (by simp))⟩
 have HV2 := Lib.hid (boxStays HV.out (HC.out.to w1 (by simp)))
 have BW2 := Lib.hid (HC.out.to w (by simp))
 have WZ : Hid (w.heap.size ≤ z ∧ z < w2.heap.size) := Lib.hid ⟨Nat.le_of_eq Sz.out, (Array.getElem?_eq_some_iff.1 HV2.out).1⟩
 have kV0 := cell_of_row _ _ 0 _ _ _ (boxStays HV.out (HC.out.to w1 (by simp)))
 have kV1 := cell_of_row _ _ 1 _ _ _ (boxStays HV.out (HC.out.to w1 (by simp)))
 have kV2 := cell_of_row _ _ 2 _ _ _ (boxStays HV.out (HC.out.to w1 (by simp)))
 go_wp2_with fail
 clear kV0 kV1 kV2
 clear HC HV Sz
 go_loopw [5, 7, 14] (fun v _ j wr => ∃ (q : Nat) (av : Option Addr) (ac : Nat), v = .slice av q ac ∧ j = .int .i64 (q : Int) ∧ q ≤ n ∧ Hid (wr.ownsRow w2.heap.size 9 1 (.slice av q ac) q (txV ((l.take q).map (·.2)))) ∧ Hid (Below w2.heap.size w2 wr)) (fun _ _ j _ => n - (intOf j).toNat)
 case atStart => exact ⟨0, none, 0, rfl, rfl, Nat.zero_le _, Lib.hid ⟨rfl, Or.inl ⟨rfl, rfl⟩⟩, Lib.hid (Below.refl _ _)⟩
 case round =>
  obtain ⟨q, av, ac, rfl, rfl, hq, OW, HB⟩ := hrel
  have BWr : Hid (Below w.heap.size w wr) := Lib.hid (BW2.out.trans (HB.out.mono BW2.out.size))
  by_cases hlt : q < n
  · have hqi : (q : Int) < (n : Int) := by omega
    have hql : q < l.length := by have := HN.out; omega
    obtain ⟨ba', oa', rfl, cx⟩ := els_get (HL.out.below BWr.out rfl) q hql
    have SN : Hid ((l.take (q + 1)).map (·.2) = (l.take q).map (·.2) ++ [(l[q]).2]) := Lib.hid (by rw [← List.take_append_getElem hql, List.map_append]; rfl)
    obtain ⟨x, hx⟩ : ∃ x, l[q] = x := ⟨_, rfl⟩
    rw [hx] at cx SN
    obtain ⟨p0, p1, p2, p3, p4, p5⟩ := cx
    clear hx
    go_upto_region 7 with (fail)
    clear p0 p1 p2 p3 p4 p5
    obtain ⟨w3, hw3⟩ : ∃ W, wr.alloc (.cells #[.int .i64 x.1.g, .int .i64 x.1.r, .string x.1.l, .int .i64 x.1.n, .int .i64 x.1.i, .string x.2] 53) = W := ⟨_, rfl⟩
    have B3 : Hid (Below wr.heap.size wr w3) := Lib.hid (by rw [← hw3]; exact below_new _ _)
    have hx3 : w3.heap[wr.heap.size]? = some (.cells #[.int .i64 x.1.g, .int .i64 x.1.r, .string x.1.l, .int .i64 x.1.n, .int .i64 x.1.i, .string x.2] 53 (0, 0)) := by rw [← hw3]; exact heap_alloc_new _ _
    rw [hw3]
    obtain ⟨u, hu⟩ : ∃ u, wr.heap.size = u := ⟨_, rfl⟩
    rw [hu] at hx3
    try rw [hu]
    have OW3 := Lib.hid (own_later OW.out B3.out (Nat.le_refl _))
    have BB3 := Lib.hid (HB.out.trans (B3.out.mono HB.out.size))
    have q5 := cell_of_row _ u 5 _ _ _ hx3
    clear hw3 hx3 hu
    go_wp2_with (at_builtin; go_must (refine wpList_app rfl _ _ 63 63 rfl w2.heap.size 9 _ 1 16 ST.out (.slice av q ac) q (txV ((l.take q).map (·.2))) rfl (OW3.out.alloc _) _ 1 [.string x.2] rfl ((CellsAt.new w3 9 (0, 0) [.string x.2]).srcN rfl (fun u hu => by simp at hu; subst hu; rfl) Tryz.underlying63 1 (by decide)) (by omega) (by omega) (by have := BB3.out.size; simp; omega) ?_); go_must (intro v10 w10 hown hgr10 hbel hor); go_must (obtain ⟨a10, c10, rfl, _⟩ := own_slice hown); have OW10 := Lib.hid hown; have B10 : Hid (Below w2.heap.size w2 w10) := Lib.hid (BB3.out.trans (((below_new w3 (.cells #[.string x.2] 9)).mono BB3.out.size).trans hbel)); clear hown hgr10 hbel hor q5)
    go_roundw
    case rel => exact ⟨q + 1, a10, c10, rfl, by go_num, by omega, Lib.hid (by rw [SN.out, show txV ((l.take q).map (·.2) ++ [x.2]) = txV ((l.take q).map (·.2)) ++ [.string x.2] by simp [txV]]; exact OW10.out), B10⟩
    case measure => simp [intOf]; omega
  · obtain rfl : q = n := by omega
    have hqi : ¬ (q : Int) < (q : Int) := by omega
    have OWF : Hid (wr.ownsRow w2.heap.size 9 1 (.slice av q ac) q (txV (l.map (·.2)))) := Lib.hid (by have h := OW.out; rwa [List.take_of_length_le (by rw [HN.out]; exact Nat.le_refl _)] at h)
    have HVR := Lib.hid (boxStays HV2.out HB.out)
    have v0 := cell_of_row _ z 0 _ _ _ HVR.out
    have v1 := cell_of_row _ z 1 _ _ _ HVR.out
    by_cases hk : k = 2
    · subst hk
      have SH : Hid (showG 2 l = setT (l.map (·.2))) := Lib.hid (by unfold showG; rw [if_pos rfl])
      go_wp2_with fail
      clear v0 v1
      by_cases h0 : q = 0
      · subst h0
        obtain rfl : l = [] := List.length_eq_zero_iff.1 HN.out.symm
        refine (sl_SortTxNil av ac _).mono ?_
        rintro e w5 ⟨rfl, rfl⟩
        go_wp2_with fail
        refine (sl_CompactTxNil av ac _).mono ?_
        rintro e w6 ⟨rfl, rfl⟩
        have v1 := cell_of_row _ z 1 _ _ _ HVR.out
        go_wp2_with fail
        refine bodyPost_ret (v := .tuple #[.int .i64 m, .slice av 0 ac, .int .i64 0]) (by simp [results, Tryz.results35, go_sem]) rfl ?_
        exact ⟨.inr ⟨H1.out, av, 0, ac, rfl, by rw [SH.out]; rfl, by rw [SH.out]; exact CellsAt.nil _ _, own_from OWF.out BW2.out.size⟩, BWr.out⟩
      · obtain ⟨g, c', hv, hg1, hg2, hnk, _⟩ := own_form OWF.out (by omega)
        cases hv
        have NK : Hid (q ≤ ac ∧ w2.heap.size ≤ g) := Lib.hid ⟨hnk, hg1⟩
        refine (sl_SortTx (l.map (·.2)) g q ac _ _ wr (by rw [List.length_map]; exact HN.out) (by omega) OWF.out).mono ?_
        rintro e w5 ⟨rfl, hH5, hgr5⟩
        have HH5 := Lib.hid hH5
        have GR5 := Lib.hid hgr5
        clear hH5 hgr5 hg1 hg2 hnk
        go_wp2_with fail
        refine (sl_CompactTx _ g q ac w5 (by rw [List.length_mergeSort]; simp [lstB, HN.out]) (by omega) NK.out.1 HH5.out).mono ?_
        rintro e w6 ⟨rfl, hc6, hgr6⟩
        rw [show_set] at hc6 ⊢
        have C6 := Lib.hid hc6
        have GR6 := Lib.hid (grown_tr GR5.out hgr6)
        have NZ : Hid (g ≠ z) := Lib.hid (by have := NK.out; have := WZ.out; omega)
        have HV6 := Lib.hid (grow_keep GR6.out HVR.out (fun e => NZ.out (Option.some.inj e)))
        have B6 : Hid (Below w.heap.size w w6) := Lib.hid (BWr.out.grown GR6.out BWr.out.size (fun k' hk' => by cases hk'; have := NK.out; have := WZ.out; omega))
        clear hc6 hgr6
        have v1 := cell_of_row _ z 1 _ _ _ HV6.out
        go_wp2_with fail
        refine bodyPost_ret (v := .tuple #[.int .i64 m, .slice (some ⟨g, 0, none⟩) (setT (l.map (·.2))).length ac, .int .i64 0]) (by simp [results, Tryz.results35, go_sem]) rfl ?_
        exact ⟨.inr ⟨H1.out, some ⟨g, 0, none⟩, _, ac, rfl, by rw [SH.out], by rw [SH.out]; exact C6.out, own_from OWF.out BW2.out.size⟩, B6.out⟩
    · have hkb : (k == 2) = false := by simp [hk]
      have SH : Hid (showG k l = l.map (·.2)) := Lib.hid (by unfold showG; rw [if_neg hk])
      go_wp2_with fail
      refine bodyPost_ret (v := .tuple #[.int .i64 m, .slice av q ac, .int .i64 0]) (by simp [results, Tryz.results35, go_sem]) rfl ?_
      exact ⟨.inr ⟨H1.out, av, q, ac, rfl, by rw [SH.out, List.length_map]; exact HN.out, by rw [SH.out]; exact CellsAt.ownN OWF.out, own_from OWF.out BW2.out.size⟩, BWr.out⟩
end Go.Proofs.YtjlliohjeiclaaaGreatDoor
