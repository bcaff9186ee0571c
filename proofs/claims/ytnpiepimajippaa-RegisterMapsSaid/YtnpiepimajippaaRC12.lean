/- Words, contracts and walks that the proof stands on (RgB RqB12 RelO RgK Tail PmPS PmSS WkAS). -/
import Derived.Deep.RegionHeld3
import Derived.Laws.Cover1
import Derived.MapKept
import Derived.Maps.Own
import Derived.RangeFuncKeeps
import Derived.RangeFuncWrites
import Derived.Test.YtnpiepimajippaaRC1
import Derived.Test.YtnpiepimajippaaRC10
import Derived.Test.YtnpiepimajippaaRC11
import Derived.Test.YtnpiepimajippaaRC3
import Derived.Test.YtnpiepimajippaaRC4
namespace Go.Proofs.Ytnpiepimajippaa
open Go.RowKit St Pm
def wrOK (tr : Tr ByteArray) (s : Sv) (x : ByteArray) : Bool := s.ok && (((items tr).all goodP && aheadK tr (keyB s.st)) && decide (x.size ≤ 256))
set_option maxRecDepth 100000 in
set_option maxHeartbeats 2000000 in
theorem reg_Write (tr : Tr ByteArray) (s : Sv) (x : ByteArray) (w : World) (h : AtS w tr) (hz : sz tr ≤ 100000) (hk : ∀ p ∈ items tr, p.1.size ≤ 9223372036854775807) (hs : s.l.size ≤ 9223372036854775807) :
    Calls Try.prog 21 #[.agg #[.pointer (pa tr)], .agg #[.int .i64 s.g, .int .i64 s.r, .string s.l, .int .i64 s.n, .int .i64 s.i], .string x] w fun e w' =>
      Below w.heap.size w w' ∧ ∃ (m : Tr ByteArray) (c : Int), e = .returned (.tuple #[.agg #[.pointer (pa m)], .int .i64 c]) ∧ AtS w' m ∧
        ((wrOK tr s x = true ∧ c = 0 ∧ Bal m ∧ items m = putF [(s, x)]) ∨ (wrOK tr s x = false ∧ c = 2 ∧ m = .nil)) := by
  have MM := Lib.hid (fun W (hW : Below w.heap.size w W) => may_12 tr W (h.below hW rfl) hz hk)
  have ML := Lib.hid (fun W (hW : Below w.heap.size w W) => pm_MLastS tr W (h.below hW rfl))
  have MK := Lib.hid (fun W => stp_Key s W hs)
  have MO : Hid (s.ok = true → ∀ (W : World) (b : Nat), W.heap[b]? = some (.cells #[.int .i64 s.g, .int .i64 s.r, .string s.l, .int .i64 s.n, .int .i64 s.i, .string x] 47 (0, 0)) → Calls Try.prog 15 #[.slice (some ⟨b, 0, none⟩) 1 1] W fun e w' =>
      ∃ (t : Tr ByteArray) (c : Int), e = .returned (.tuple #[.agg #[.pointer (pa t)], .int .i64 c]) ∧ AtS w' t ∧ Below W.heap.size W w' ∧ ((decide (x.size ≤ 256) = true ∧ c = 0 ∧ Bal t ∧ items t = putF [(s, x)]) ∨ (decide (x.size ≤ 256) = false ∧ c = 2 ∧ t = .nil))) := Lib.hid (fun hok W b hb => by
    have hca : CellsAt W (some ⟨b, 0, none⟩) (elsV [(s, x)]) := by
      intro i hi
      have hi' : i < 6 := hi
      refine ⟨b, 0, rfl, ?_⟩
      rw [Nat.zero_add]
      match i, hi' with
      | 0, _ => exact cell_of_row _ _ 0 _ _ _ hb
      | 1, _ => exact cell_of_row _ _ 1 _ _ _ hb
      | 2, _ => exact cell_of_row _ _ 2 _ _ _ hb
      | 3, _ => exact cell_of_row _ _ 3 _ _ _ hb
      | 4, _ => exact cell_of_row _ _ 4 _ _ _ hb
      | 5, _ => exact cell_of_row _ _ 5 _ _ _ hb
    refine (of12 [(s, x)] (some ⟨b, 0, none⟩) 1 1 W hca rfl (by omega) (fun e he => by rw [List.mem_singleton.1 he]; exact hs)).mono ?_
    intro e w' ho
    have hm : mayV [(s, x)] = decide (x.size ≤ 256) := by simp [mayV, okV, hok]
    unfold OfOut12 at ho
    rw [hm] at ho
    cases hx : decide (x.size ≤ 256) with
    | true =>
      rw [hx, if_pos rfl] at ho
      obtain ⟨t, h1, h2, h3, h4, _, _, h7⟩ := ho
      exact ⟨t, 0, h1, h2, h7, .inl ⟨rfl, rfl, h3, h4⟩⟩
    | false =>
      rw [hx, if_neg (by simp)] at ho
      exact ⟨.nil, 2, ho.1, trivial, ho.2, .inr ⟨rfl, rfl, rfl⟩⟩)
  obtain ⟨q, hq⟩ : ∃ q, keyOr (endR tr) = q := ⟨_, rfl⟩
  obtain ⟨qv, hqv⟩ : ∃ q, valOr (endR tr) = q := ⟨_, rfl⟩
  obtain ⟨b2, hb2⟩ : ∃ q, isNS (endR tr) = q := ⟨_, rfl⟩
  obtain ⟨g, hg⟩ : ∃ q, (items tr).all goodP = q := ⟨_, rfl⟩
  obtain ⟨k, hkk⟩ : ∃ q, keyB s.st = q := ⟨_, rfl⟩
  obtain ⟨ok, hok⟩ : ∃ q, s.ok = q := ⟨_, rfl⟩
  obtain ⟨fx, hfx⟩ : ∃ q, decide (x.size ≤ 256) = q := ⟨_, rfl⟩
  have PO : Hid (wrOK tr s x = (ok && ((g && (!b2 || klt q k)) && fx))) := Lib.hid (by unfold wrOK aheadK; rw [hok, hfx, hg, hkk, hb2, hq])
  rw [hq, hqv, hb2] at ML
  rw [hg] at MM
  rw [hkk, hok] at MK
  rw [hfx, hok] at MO
  generalize wrOK tr s x = po at *
  obtain ⟨ans, hans⟩ : ∃ A : Ending → World → Prop, A = fun e w' => Below w.heap.size w w' ∧ ∃ (m : Tr ByteArray) (c : Int), e = .returned (.tuple #[.agg #[.pointer (pa m)], .int .i64 c]) ∧ AtS w' m ∧
        ((po = true ∧ c = 0 ∧ Bal m ∧ items m = putF [(s, x)]) ∨ (po = false ∧ c = 2 ∧ m = .nil)) := ⟨_, rfl⟩
  rw [← hans]
  have DONE : Hid (∀ (e : Ending) (w' : World) (m : Tr ByteArray) (c : Int), Below w.heap.size w w' → AtS w' m → ((po = true ∧ c = 0 ∧ Bal m ∧ items m = putF [(s, x)]) ∨ (po = false ∧ c = 2 ∧ m = .nil)) → e = .returned (.tuple #[.agg #[.pointer (pa m)], .int .i64 c]) → ans e w') := Lib.hid (by rw [hans]; exact fun e w' m c h1 h2 h3 h4 => ⟨h1, m, c, h4, h2, h3⟩)
  have FAIL : Hid (∀ (e : Ending) (w' : World), po = false → Below w.heap.size w w' → e = .returned (.tuple #[.agg #[.pointer none], .int .i64 2]) → ans e w') := Lib.hid (by rw [hans]; exact fun e w' h1 h2 h5 => ⟨h2, .nil, 2, h5, trivial, .inr ⟨h1, rfl, rfl⟩⟩)
  clear h hk hq hqv hb2 hg hkk hok hfx hs hans
  have HC : Hid (Chain [w] w) := Lib.hid (Chain.one w)
  go_enter Try.func21, Try.ntmps21
  go_upto_region 1 with (fail)
  obtain ⟨z, hz⟩ : ∃ c, w.heap.size = c := ⟨_, rfl⟩
  try rw [hz]
  obtain ⟨w3, hw3⟩ : ∃ X, allocs w [.cells #[.pointer (pa tr)] 27, .cells #[.int .i64 s.g, .int .i64 s.r, .string s.l, .int .i64 s.n, .int .i64 s.i] 41, .cells #[.pointer none] 27] = X := ⟨_, rfl⟩
  rw [show ((w.alloc (.cells #[.pointer (pa tr)] 27)).alloc (.cells #[.int .i64 s.g, .int .i64 s.r, .string s.l, .int .i64 s.n, .int .i64 s.i] 41)).alloc (.cells #[.pointer none] 27) = w3 from hw3]
  have hb : Below w.heap.size w w3 := by rw [← hw3]; exact allocs_below _ _
  have HM : Hid (w3.heap[z]? = some (.cells #[.pointer (pa tr)] 27 (0, 0))) := Lib.hid (by have := allocs_get [.cells #[.pointer (pa tr)] 27, .cells #[.int .i64 s.g, .int .i64 s.r, .string s.l, .int .i64 s.n, .int .i64 s.i] 41, .cells #[.pointer none] 27] w 0 _ rfl; rw [hw3, hz] at this; exact this)
  have HS : Hid (w3.heap[z + 1]? = some (.cells #[.int .i64 s.g, .int .i64 s.r, .string s.l, .int .i64 s.n, .int .i64 s.i] 41 (0, 0))) := Lib.hid (by have := allocs_get [.cells #[.pointer (pa tr)] 27, .cells #[.int .i64 s.g, .int .i64 s.r, .string s.l, .int .i64 s.n, .int .i64 s.i] 41, .cells #[.pointer none] 27] w 1 _ rfl; rw [hw3, hz] at this; exact this)
  have HR : Hid (w3.heap[z + 1 + 1]? = some (.cells #[.pointer none] 27 (0, 0))) := Lib.hid (by have := allocs_get [.cells #[.pointer (pa tr)] 27, .cells #[.int .i64 s.g, .int .i64 s.r, .string s.l, .int .i64 s.n, .int .i64 s.i] 41, .cells #[.pointer none] 27] w 2 _ rfl; rw [hw3, hz] at this; exact this)
  have Sz : Hid (w.heap.size = z) := Lib.hid hz
  replace HC := Lib.hid (HC.out.push hb)
  clear hb hw3 hz
  have kS0 := cell_of_row _ _ 0 _ _ _ HS.out
  have kS1 := cell_of_row _ _ 1 _ _ _ HS.out
  have kS2 := cell_of_row _ _ 2 _ _ _ HS.out
  have kS3 := cell_of_row _ _ 3 _ _ _ HS.out
  have kS4 := cell_of_row _ _ 4 _ _ _ HS.out
  go_wp2_with fail
  cases ok
  case false =>
    refine (MK.out _).mono ?_
    rintro e w4 ⟨rfl, hb⟩
    clear kS0 kS1 kS2 kS3 kS4
    replace HC := Lib.hid (HC.out.push hb)
    clear hb
    rw [if_neg (by simp)]
    have kM0 := cell_of_one (boxStays HM.out (HC.out.to w3 (by simp)))
    go_wp2_with fail
    refine (ML.out _ (HC.out.to w (by simp))).mono ?_
    rintro e w5 ⟨rfl, hb⟩
    clear kM0
    replace HC := Lib.hid (HC.out.push hb)
    clear hb
    have po1 : Hid (po = false) := Lib.hid (by rw [PO.out]; first | rfl | (simp; done) | (simp [*]))
    have kR0 := cell_of_one (boxStays HR.out (HC.out.to w3 (by simp)))
    have fR0 := frozen_of_row _ (z + 1 + 1) 0 _ _ (boxStays HR.out (HC.out.to w3 (by simp)))
    have c4 : ∀ u, (w5.setCell ⟨z + 1 + 1, 0, none⟩ u).cell? ⟨z + 1 + 1, 0, none⟩ = some u := fun u => cell_of_one (Boxed.set (t := 27) u (boxStays HR.out (HC.out.to w3 (by simp))))
    have BZ := Lib.hid (Below.setCell (p := ⟨z + 1 + 1, 0, none⟩) (show Below z w w5 from by rw [← Sz.out]; exact HC.out.to w (by simp)) (by simp; omega) (.pointer none))
    go_wp2_with fail
    exact bodyPost_ret (v := .tuple #[.agg #[.pointer none], .int .i64 2]) (by simp [results, Try.results21, go_sem, c4]) rfl (FAIL.out _ _ po1.out (by rw [Sz.out]; exact BZ.out) rfl)
  case true =>
    refine (MK.out _).mono ?_
    rintro e w4 ⟨rfl, hb⟩
    clear kS0 kS1 kS2 kS3 kS4
    replace HC := Lib.hid (HC.out.push hb)
    clear hb
    rw [if_pos rfl]
    have kM0 := cell_of_one (boxStays HM.out (HC.out.to w3 (by simp)))
    go_wp2_with fail
    refine (ML.out _ (HC.out.to w (by simp))).mono ?_
    rintro e w5 ⟨rfl, hb⟩
    clear kM0
    replace HC := Lib.hid (HC.out.push hb)
    clear hb
    have kM0 := cell_of_one (boxStays HM.out (HC.out.to w3 (by simp)))
    go_wp2_with fail
    refine (MM.out _ (HC.out.to w (by simp))).mono ?_
    rintro e w6 ⟨rfl, hb⟩
    clear kM0
    replace HC := Lib.hid (HC.out.push hb)
    clear hb
    cases g
    case false =>
      have po1 : Hid (po = false) := Lib.hid (by rw [PO.out]; first | rfl | (simp; done) | (simp [*]))
      have kR0 := cell_of_one (boxStays HR.out (HC.out.to w3 (by simp)))
      have fR0 := frozen_of_row _ (z + 1 + 1) 0 _ _ (boxStays HR.out (HC.out.to w3 (by simp)))
      have c4 : ∀ u, (w6.setCell ⟨z + 1 + 1, 0, none⟩ u).cell? ⟨z + 1 + 1, 0, none⟩ = some u := fun u => cell_of_one (Boxed.set (t := 27) u (boxStays HR.out (HC.out.to w3 (by simp))))
      have BZ := Lib.hid (Below.setCell (p := ⟨z + 1 + 1, 0, none⟩) (show Below z w w6 from by rw [← Sz.out]; exact HC.out.to w (by simp)) (by simp; omega) (.pointer none))
      go_wp2_with fail
      exact bodyPost_ret (v := .tuple #[.agg #[.pointer none], .int .i64 2]) (by simp [results, Try.results21, go_sem, c4]) rfl (FAIL.out _ _ po1.out (by rw [Sz.out]; exact BZ.out) rfl)
    case true =>
      cases b2
      case false =>
        have po1 : Hid (po = fx) := Lib.hid (by rw [PO.out]; first | rfl | (simp; done) | (simp [*]))
        have kS0 := cell_of_row _ _ 0 _ _ _ (boxStays HS.out (HC.out.to w3 (by simp)))
        have kS1 := cell_of_row _ _ 1 _ _ _ (boxStays HS.out (HC.out.to w3 (by simp)))
        have kS2 := cell_of_row _ _ 2 _ _ _ (boxStays HS.out (HC.out.to w3 (by simp)))
        have kS3 := cell_of_row _ _ 3 _ _ _ (boxStays HS.out (HC.out.to w3 (by simp)))
        have kS4 := cell_of_row _ _ 4 _ _ _ (boxStays HS.out (HC.out.to w3 (by simp)))
        go_wp2_with fail
        clear kS0 kS1 kS2 kS3 kS4
        obtain ⟨bE, hbE⟩ : ∃ c, w6.heap.size = c := ⟨_, rfl⟩
        try rw [hbE]
        obtain ⟨w7, hw7⟩ : ∃ X, allocs w6 [.cells #[.int .i64 s.g, .int .i64 s.r, .string s.l, .int .i64 s.n, .int .i64 s.i, .string x] 47] = X := ⟨_, rfl⟩
        rw [show w6.alloc (.cells #[.int .i64 s.g, .int .i64 s.r, .string s.l, .int .i64 s.n, .int .i64 s.i, .string x] 47) = w7 from hw7]
        have hb : Below w6.heap.size w6 w7 := by rw [← hw7]; exact allocs_below _ _
        have HE : Hid (w7.heap[bE]? = some (.cells #[.int .i64 s.g, .int .i64 s.r, .string s.l, .int .i64 s.n, .int .i64 s.i, .string x] 47 (0, 0))) := Lib.hid (by have := allocs_get [.cells #[.int .i64 s.g, .int .i64 s.r, .string s.l, .int .i64 s.n, .int .i64 s.i, .string x] 47] w6 0 _ rfl; rw [hw7, hbE] at this; exact this)
        have SbE : Hid (w6.heap.size = bE) := Lib.hid hbE
        replace HC := Lib.hid (HC.out.push hb)
        clear hb hw7 hbE
        refine (MO.out (by trivial) _ _ HE.out).mono ?_
        rintro e w8 ⟨m, c, rfl, hm, hb, hP⟩
        replace HC := Lib.hid (HC.out.push hb)
        clear hb
        have HM := Lib.hid hm
        have HP : Hid ((po = true ∧ c = 0 ∧ Bal m ∧ items m = putF [(s, x)]) ∨ (po = false ∧ c = 2 ∧ m = .nil)) := Lib.hid (by rw [po1.out]; exact hP)
        clear hm hP
        have kR0 := cell_of_one (boxStays HR.out (HC.out.to w3 (by simp)))
        have fR0 := frozen_of_row _ (z + 1 + 1) 0 _ _ (boxStays HR.out (HC.out.to w3 (by simp)))
        have c4 : ∀ u, (w8.setCell ⟨z + 1 + 1, 0, none⟩ u).cell? ⟨z + 1 + 1, 0, none⟩ = some u := fun u => cell_of_one (Boxed.set (t := 27) u (boxStays HR.out (HC.out.to w3 (by simp))))
        have BZ := Lib.hid (Below.setCell (p := ⟨z + 1 + 1, 0, none⟩) (show Below z w w8 from by rw [← Sz.out]; exact HC.out.to w (by simp)) (by simp; omega) (.pointer (pa m)))
        have AZ := Lib.hid (HM.out.setBox (boxStays HR.out (HC.out.to w3 (by simp))) (by decide) 0 (.pointer (pa m)))
        go_wp2_with fail
        exact bodyPost_ret (v := .tuple #[.agg #[.pointer (pa m)], .int .i64 c]) (by simp [results, Try.results21, go_sem, c4]) rfl (DONE.out _ _ m c (by rw [Sz.out]; exact BZ.out) AZ.out HP.out rfl)
      case true =>
        cases hqk : klt q k
        case false =>
          have hbl : Op.bytesLess q.toList k.toList = false := hqk
          have po1 : Hid (po = false) := Lib.hid (by rw [PO.out]; first | rfl | (simp; done) | (simp [*]))
          have kR0 := cell_of_one (boxStays HR.out (HC.out.to w3 (by simp)))
          have fR0 := frozen_of_row _ (z + 1 + 1) 0 _ _ (boxStays HR.out (HC.out.to w3 (by simp)))
          have c4 : ∀ u, (w6.setCell ⟨z + 1 + 1, 0, none⟩ u).cell? ⟨z + 1 + 1, 0, none⟩ = some u := fun u => cell_of_one (Boxed.set (t := 27) u (boxStays HR.out (HC.out.to w3 (by simp))))
          have BZ := Lib.hid (Below.setCell (p := ⟨z + 1 + 1, 0, none⟩) (show Below z w w6 from by rw [← Sz.out]; exact HC.out.to w (by simp)) (by simp; omega) (.pointer none))
          go_wp2_with fail
          exact bodyPost_ret (v := .tuple #[.agg #[.pointer none], .int .i64 2]) (by simp [results, Try.results21, go_sem, c4]) rfl (FAIL.out _ _ po1.out (by rw [Sz.out]; exact BZ.out) rfl)
        case true =>
          have hbl : Op.bytesLess q.toList k.toList = true := hqk
          have po1 : Hid (po = fx) := Lib.hid (by rw [PO.out]; first | rfl | (simp; done) | (simp [*]))
          have kS0 := cell_of_row _ _ 0 _ _ _ (boxStays HS.out (HC.out.to w3 (by simp)))
          have kS1 := cell_of_row _ _ 1 _ _ _ (boxStays HS.out (HC.out.to w3 (by simp)))
          have kS2 := cell_of_row _ _ 2 _ _ _ (boxStays HS.out (HC.out.to w3 (by simp)))
          have kS3 := cell_of_row _ _ 3 _ _ _ (boxStays HS.out (HC.out.to w3 (by simp)))
          have kS4 := cell_of_row _ _ 4 _ _ _ (boxStays HS.out (HC.out.to w3 (by simp)))
          go_wp2_with fail
          clear kS0 kS1 kS2 kS3 kS4
          obtain ⟨bE, hbE⟩ : ∃ c, w6.heap.size = c := ⟨_, rfl⟩
          try rw [hbE]
          obtain ⟨w7, hw7⟩ : ∃ X, allocs w6 [.cells #[.int .i64 s.g, .int .i64 s.r, .string s.l, .int .i64 s.n, .int .i64 s.i, .string x] 47] = X := ⟨_, rfl⟩
          rw [show w6.alloc (.cells #[.int .i64 s.g, .int .i64 s.r, .string s.l, .int .i64 s.n, .int .i64 s.i, .string x] 47) = w7 from hw7]
          have hb : Below w6.heap.size w6 w7 := by rw [← hw7]; exact allocs_below _ _
          have HE : Hid (w7.heap[bE]? = some (.cells #[.int .i64 s.g, .int .i64 s.r, .string s.l, .int .i64 s.n, .int .i64 s.i, .string x] 47 (0, 0))) := Lib.hid (by have := allocs_get [.cells #[.int .i64 s.g, .int .i64 s.r, .string s.l, .int .i64 s.n, .int .i64 s.i, .string x] 47] w6 0 _ rfl; rw [hw7, hbE] at this; exact this)
          have SbE : Hid (w6.heap.size = bE) := Lib.hid hbE
          replace HC := Lib.hid (HC.out.push hb)
          clear hb hw7 hbE
          refine (MO.out (by trivial) _ _ HE.out).mono ?_
          rintro e w8 ⟨m, c, rfl, hm, hb, hP⟩
          replace HC := Lib.hid (HC.out.push hb)
          clear hb
          have HM := Lib.hid hm
          have HP : Hid ((po = true ∧ c = 0 ∧ Bal m ∧ items m = putF [(s, x)]) ∨ (po = false ∧ c = 2 ∧ m = .nil)) := Lib.hid (by rw [po1.out]; exact hP)
          clear hm hP
          have kR0 := cell_of_one (boxStays HR.out (HC.out.to w3 (by simp)))
          have fR0 := frozen_of_row _ (z + 1 + 1) 0 _ _ (boxStays HR.out (HC.out.to w3 (by simp)))
          have c4 : ∀ u, (w8.setCell ⟨z + 1 + 1, 0, none⟩ u).cell? ⟨z + 1 + 1, 0, none⟩ = some u := fun u => cell_of_one (Boxed.set (t := 27) u (boxStays HR.out (HC.out.to w3 (by simp))))
          have BZ := Lib.hid (Below.setCell (p := ⟨z + 1 + 1, 0, none⟩) (show Below z w w8 from by rw [← Sz.out]; exact HC.out.to w (by simp)) (by simp; omega) (.pointer (pa m)))
          have AZ := Lib.hid (HM.out.setBox (boxStays HR.out (HC.out.to w3 (by simp))) (by decide) 0 (.pointer (pa m)))
          go_wp2_with fail
          exact bodyPost_ret (v := .tuple #[.agg #[.pointer (pa m)], .int .i64 c]) (by simp [results, Try.results21, go_sem, c4]) rfl (DONE.out _ _ m c (by rw [Sz.out]; exact BZ.out) AZ.out HP.out rfl)
end Go.Proofs.Ytnpiepimajippaa
namespace Go.Proofs.Ytnpiepimajippaa
open Go.RowKit St Pm
theorem cells_row {W : World} {b : Nat} {cs : List Value} {t : TypeId} {fr : Nat × Nat} (h : W.heap[b]? = some (.cells cs.toArray t fr)) : CellsAt W (some ⟨b, 0, none⟩) cs := by
  intro i hi
  refine ⟨b, 0, rfl, ?_⟩
  rw [Nat.zero_add, cell_of_row _ _ i _ _ _ h]
  simp
theorem of_reg12 (l : List Ev) (a : Option Addr) (n c : Nat) (w : World) (hl : CellsAt w a (elsV l)) (hn : n = l.length) (hb : n ≤ 100000) (hsz : ∀ e ∈ l, e.1.l.size ≤ 9223372036854775807) :
    Calls Try.prog 15 #[.slice a n c] w fun e w' => ∃ (t : Tr ByteArray) (c : Int), e = .returned (.tuple #[.agg #[.pointer (pa t)], .int .i64 c]) ∧ AtS w' t ∧ Below w.heap.size w w' ∧ (∀ b ∈ blocks t, w.heap.size ≤ b) ∧
      ((mayV l = true ∧ c = 0 ∧ Reg (sortV l) t) ∨ (mayV l = false ∧ c = 2 ∧ t = .nil)) := by
  refine (of12 l a n c w hl hn hb hsz).mono ?_
  intro e w' ho
  unfold OfOut12 at ho
  cases hm : mayV l with
  | true =>
    rw [hm, if_pos rfl] at ho
    obtain ⟨t, h1, h2, h3, h4, h5, _, h7⟩ := ho
    exact ⟨t, 0, h1, h2, h7, h5, .inl ⟨rfl, rfl, reg_put hm h3 h4⟩⟩
  | false =>
    rw [hm, if_neg (by simp)] at ho
    exact ⟨.nil, 2, ho.1, trivial, ho.2, fun b hb => (by cases hb), .inr ⟨rfl, rfl, rfl⟩⟩
theorem txt_reg12 {l : List Ev} {t : Tr ByteArray} (w : World) (h : AtS w t) (hr : Reg l t) (hz : l.length ≤ 100000) :
    Calls Try.prog 50 #[.agg #[.pointer (pa t)]] w fun e w' => ∃ v, e = .returned (.tuple #[v, .int .i64 0]) ∧ Below w.heap.size w w' ∧ w'.ownsRow w.heap.size 9 1 v l.length (txV (l.map (·.2))) := by
  refine (texts_12 t w h (by rw [hr.len]; exact hz) hr.keys).mono ?_
  rintro e w' ⟨v, c, rfl, hb, h1, _⟩
  obtain ⟨rfl, h2⟩ := h1 hr.good
  rw [hr.texts, sz_items, hr.len] at h2
  exact ⟨v, rfl, hb, h2⟩
def oneE (l : List Ev) : ByteArray × Bool := match l with
  | [x] => (x.2, true)
  | _ => (⟨#[]⟩, false)
theorem one_reg {l : List Ev} {t : Tr ByteArray} (w : World) (h : AtS w t) (hr : Reg l t) (hz : l.length ≤ 100000) :
    Calls Try.prog 52 #[.agg #[.pointer (pa t)]] w fun e w' => e = .returned (.tuple #[.string (oneE l).1, .bool (oneE l).2]) ∧ Below w.heap.size w w' := by
  refine (reg_One t w h (by rw [hr.len]; exact hz) hr.keys).mono ?_
  rintro e w' ⟨rfl, hb⟩
  have e1 : oneF (items t) = oneE l := by
    rw [hr.it]
    match l, hr with
    | [], _ => rfl
    | [x], hr =>
      have hg := (good_enc (hr.ok x (by simp))).1
      show (if goodP (encV x) = true then _ else _) = _
      rw [if_pos hg]
      rfl
    | _ :: _ :: _, _ => rfl
  rw [e1]
  exact ⟨rfl, hb⟩
theorem wr_reg {l : List Ev} {t : Tr ByteArray} (s : Sv) (x : ByteArray) (w : World) (h : AtS w t) (hr : Reg l t) (hz : l.length ≤ 100000) (hs : s.l.size ≤ 9223372036854775807) :
    Calls Try.prog 21 #[.agg #[.pointer (pa t)], .agg #[.int .i64 s.g, .int .i64 s.r, .string s.l, .int .i64 s.n, .int .i64 s.i], .string x] w fun e w' =>
      ∃ (m : Tr ByteArray) (c : Int), e = .returned (.tuple #[.agg #[.pointer (pa m)], .int .i64 c]) ∧ AtS w' m ∧ Below w.heap.size w w' ∧ (((okV (s, x) && behindV l s) = true ∧ c = 0 ∧ Reg [(s, x)] m) ∨ ((okV (s, x) && behindV l s) = false ∧ c = 2 ∧ m = .nil)) := by
  refine (reg_Write t s x w h (by rw [hr.len]; exact hz) hr.keys hs).mono ?_
  rintro e w' ⟨hb, m, c, rfl, hm, hP⟩
  have e1 : wrOK t s x = (okV (s, x) && behindV l s) := by
    unfold wrOK okV
    rw [hr.good]
    cases hs : s.ok with
    | false => rfl
    | true =>
      rw [hr.ahead hs]
      cases behindV l s <;> simp
  rw [e1] at hP
  refine ⟨m, c, rfl, hm, hb, ?_⟩
  rcases hP with ⟨h1, h2, h3, h4⟩ | h1
  · have h5 := h1
    rw [Bool.and_eq_true] at h5
    obtain ⟨h6, h7⟩ := okV_iff.1 h5.1
    exact .inl ⟨h1, h2, reg_one h6 h7 h3 h4⟩
  · exact .inr h1
theorem goes_reg12 (tr : Tr ByteArray) (mb : Nat) (L : List Ev) (a : Option Addr) (n c : Nat) (leave : Int) (w : World) (hm : Boxed w mb 27 (.pointer (pa tr))) (h : AtS w tr) (hz : sz tr ≤ 100000) (hk : ∀ p ∈ items tr, p.1.size ≤ 9223372036854775807)
    (hL : shown tr = L) (hl : CellsAt w a (elsV L)) (hn : n = L.length) :
    Calls Try.prog 53 #[.func (.func 108) #[] #[.pointer (some ⟨mb, 0, none⟩)], .slice a n c, .int .i64 leave] w fun e w' => e = .returned (.bool true) ∧ Below w.heap.size w w' := by
  have hb : n ≤ 1000000 := by
    rw [hn, ← hL]
    unfold shown
    split
    · rw [List.length_map, sz_items]; omega
    · exact Nat.zero_le _
  exact goes_12 108 #[.pointer (some ⟨mb, 0, none⟩)] (fun _ => False) L a n c leave w hl hn hb (fun k hk => hk.elim) (enters_of Try.func108 (by kernel_rfl) rfl) (fun W hW => by rw [← hL]; exact all1_12 5 (by omega) tr mb W _ (boxStays hm hW) (h.below hW rfl) hz hk (fun k hk => hk.elim))
end Go.Proofs.Ytnpiepimajippaa
namespace Go.Proofs.Ytnpiepimajippaa
open Go.RowKit
section
variable {P : Program} {ops : Array Oper} {Q : Exit → Act → World → Prop} {id : Nat} {base : Array Value} {df : List Deferred} {slots : List Nat} {W0 : World}
theorem ext_val (x : Value) (ix : Nat) : (∃ v, Instr.extract x ix = pure v) ∨ (∃ s, Instr.extract x ix = stuck s) := by
  unfold Instr.extract
  split
  · split
    · exact .inl ⟨_, rfl⟩
    · exact .inr ⟨_, rfl⟩
  · exact .inr ⟨_, rfl⟩
theorem wpOp_ext {i : Nat} {o : Oper} {t : Operand} {ix : Nat} (ho : ops[i]? = some o) (hg : o.guard = none) (hop : o.op = .extract t ix) {K : Act → World → Prop} {a : Act} {w : World} (h : wpOp P ops Q i K a w) :
    ∃ v, K (a.put (dstN ops i) v) w ∧ ∀ (K' : Act → World → Prop) (w2 : World), K' (a.put (dstN ops i) v) w2 → wpOp P ops Q i K' a w2 := by
  have hd : dstN ops i = o.dst := by unfold dstN; rw [ho]; rfl
  rw [hd]
  unfold wpOp at h ⊢
  rw [ho] at h ⊢
  simp only [wanted_none hg, if_true] at h ⊢
  rcases ext_val (a.eval t) ix with ⟨v, hv⟩ | ⟨s, hs⟩
  · have he : execOp a.eval o = pure (.value v) := by
      unfold execOp
      simp [hop, hv]
    refine ⟨v, ?_, fun K' w2 hK' => .inl ?_⟩
    · rcases h with h | ⟨h1, _⟩
      · unfold Oper.wp at h; rw [he] at h; exact h
      · unfold Oper.asks at h1
        rw [he] at h1
        have h2 : noRoomEvent ∈ (#[] : Array _) := h1.1
        cases (Array.not_mem_empty _ h2)
    · unfold Oper.wp; rw [he]; exact hK'
  · exfalso
    have he : execOp a.eval o = (stuck s : Sem Next) := by
      unfold execOp
      simp [hop, hs]
      rfl
    rcases h with h | ⟨h1, _⟩
    · unfold Oper.wp at h; rw [he] at h; exact h
    · unfold Oper.asks at h1
      rw [he] at h1
      have h2 : noRoomEvent ∈ (#[] : Array _) := h1.1
      cases (Array.not_mem_empty _ h2)
def freeB (ops : Array Oper) (i : Nat) : Bool := copyB ops i || match ops[i]? with
  | some o => o.guard.isNone && (match o.op with
    | .extract _ _ => true
    | _ => false)
  | none => false
theorem wpOp_free {i : Nat} (hf : freeB ops i = true) {K : Act → World → Prop} {a : Act} {w : World} (h : wpOp P ops Q i K a w) :
    ∃ v, K (a.put (dstN ops i) v) w ∧ ∀ (K' : Act → World → Prop) (w2 : World), K' (a.put (dstN ops i) v) w2 → wpOp P ops Q i K' a w2 := by
  unfold freeB at hf
  rw [Bool.or_eq_true] at hf
  rcases hf with hf | hf
  · obtain ⟨x, hx⟩ := wpOp_copy (P := P) (Q := Q) hf
    exact ⟨a.eval x, (hx _ _ _).1 h, fun K' w2 hK' => (hx _ _ _).2 hK'⟩
  · cases ho : ops[i]? with
    | none => rw [ho] at hf; cases hf
    | some o =>
      rw [ho] at hf
      simp only [Bool.and_eq_true] at hf
      have hg : o.guard = none := by simpa using hf.1
      have h2 := hf.2
      split at h2
      · rename_i t ix hop
        exact wpOp_ext ho hg hop h
      · cases h2
def blkOf : Value → Nat
  | .pointer (some a) => a.block
  | _ => 0
def ownOK (ops : Array Oper) (s x ix y iy : Nat) : Bool := decide (s < ops.size) && (dstN ops s == none) && (dstN ops ix == some x) && (dstN ops iy == some y) && needsN ops 6 s ix && needsN ops 6 s iy
def freeOK1 (ops : Array Oper) (s : Nat) : Bool := (List.range ops.size).all fun i => i == s || (freeB ops i || needsN ops 6 s i)
theorem setRow_one {w : World} {b : Nat} {u v : Value} {t : TypeId} {fr : Nat × Nat} (h : w.heap[b]? = some (.cells #[u] t fr)) : w.setRow b #[v] = w.setCell ⟨b, 0, none⟩ v := by
  unfold World.setRow World.setCell
  simp only [World.mk.injEq, true_and, and_true]
  apply Array.ext_getElem?
  intro k
  simp only [Array.getElem?_modify]
  by_cases e : b = k
  · subst e
    simp [h]
  · simp [e]
theorem relG_own {gs : List Pr} (s x ix y iy : Nat) (ps psS : List (Nat × Nat × Nat)) (hm : P.follows .mixedOrders = true) (hl : gs.length = ops.size) (hps : finOK ops ps = true) (hpsS : stoDeps ops [s] psS = true)
    (hS : ownOK ops s x ix y iy = true) (hfr : freeOK1 ops s = true)
    (hst : ∀ f w, Below W0.heap.size W0 w → FinF gs f w psS → ∀ K : Act → World → Prop, K { tmps := regT base slots f, defers := df } (w.setRow (blkOf (f x)) (f y).cells) → wpOp P ops Q s K { tmps := regT base slots f, defers := df } w)
    (h : ∀ f w, Below W0.heap.size W0 w → FinF gs f w ps → Q .normal { tmps := regT base slots f, defers := df } (w.setRow (blkOf (f x)) (f y).cells)) : RelG P ops Q id base df slots W0 [s] gs := by
  intro hup hsl hinj hsz hall
  have hpS : s < ops.size ∧ dstN ops s = none ∧ dstN ops ix = some x ∧ dstN ops iy = some y ∧ needsN ops 6 s ix = true ∧ needsN ops 6 s iy = true := by
    simp only [ownOK, Bool.and_eq_true, decide_eq_true_eq, beq_iff_eq] at hS
    exact ⟨hS.1.1.1.1.1, hS.1.1.1.1.2, hS.1.1.1.2, hS.1.1.2, hS.1.2, hS.2⟩
  obtain ⟨p1, p2, p3, p4, p5, p6⟩ := hpS
  have hfinS : ∀ (L : Nat → Bool) f w, ClosedL ops L → (∀ i d, dstN ops i = some d → L i = true → lkG gs i (f d) w) → (∀ k ∈ preOf ops s, L k = true) → FinF gs f w psS := by
    intro L f w hc hL hpre
    clear h hst
    induction psS with
    | nil => trivial
    | cons q psS ih =>
      simp only [stoDeps, List.all_cons, Bool.and_eq_true] at hpsS
      obtain ⟨⟨⟨h1, h2⟩, h4⟩, h3⟩ := hpsS
      have hj' : q.1 + q.2.2 + 1 = ops.size := by simpa using h1
      have h5 := hL q.1 q.2.1 (by simpa using h2) (needsN_out hc _ _ _ h4.1 hpre)
      unfold lkG at h5
      rw [if_pos (by omega), show gs.length - 1 - q.1 = q.2.2 by omega] at h5
      exact ⟨⟨f q.2.1, rfl, h5⟩, ih h3⟩
  refine region_inv (fun L a w => ClosedL ops L ∧ ∃ f w', a = { tmps := regT base slots f, defers := df } ∧ Below W0.heap.size W0 w' ∧ (∀ i d, dstN ops i = some d → L i = true → lkG gs i (f d) w') ∧ w = if L s = true then w'.setRow (blkOf (f x)) (f y).cells else w') hm hup
    ⟨(fun _ h => by cases h), fun k => base.getD k undef, W0.drew, by rw [regT_id], (Below.refl _ _).drew, fun _ _ _ h => (by cases h), by rw [if_neg (by simp)]⟩ ?_ ?_
  · rintro i hi L a w ⟨hc, f, w', rfl, hW, hL, rfl⟩ hLi hpre
    have hc' := closedL_next hc hpre
    by_cases his : i = s
    · subst his
      rw [if_neg (by rw [hLi]; simp)]
      refine hst f w' hW (hfinS L f w' hc hL hpre) _ ⟨hc', f, w', rfl, hW, fun j d e hj => ?_, by rw [if_pos (by simp)]⟩
      have hne : j ≠ i := fun e' => by rw [e', p2] at e; cases e
      exact hL j d e (by simpa [hne] using hj)
    · have hso : [s].contains i = false := by simpa using his
      obtain ⟨h1, h2⟩ := hall i (by omega) hso
      have hLs : (s == i || L s) = L s := by
        have : (s == i) = false := by simpa using fun e => his (Eq.symm e)
        rw [this]; rfl
      have hkeep : ∀ v w'', lkG gs i v w'' → Below w'.heap.size w' w'' → ∃ f1, ({ tmps := regT base slots f, defers := df : Act }.put (dstN ops i) v) = { tmps := regT base slots f1, defers := df } ∧ Below W0.heap.size W0 w'' ∧ (∀ j d, dstN ops j = some d → (j == i || L j) = true → lkG gs j (f1 d) w'') ∧ (L s = true → f1 x = f x ∧ f1 y = f y) := by
        intro v w'' hg hb
        have hW' := hW.trans (hb.mono hW.size)
        cases hdi : dstN ops i with
        | none =>
          refine ⟨f, rfl, hW', fun j d e hj => ?_, fun _ => ⟨rfl, rfl⟩⟩
          have hne : j ≠ i := fun e' => by rw [e', hdi] at e; cases e
          have hLj : L j = true := by simpa [hne] using hj
          have hjs : [s].contains j = false := by
            have : j ≠ s := fun e' => by rw [e', p2] at e; cases e
            simpa using this
          exact (hall j (by have := dstN_lt e; omega) hjs).1 _ _ _ (hL j d e hLj) hb
        | some di =>
          refine ⟨updF f di v, ?_, hW', fun j d e hj => ?_, fun hls => ?_⟩
          · show ({ tmps := (regT base slots f).setIfInBounds di v, defers := df } : Act) = _
            rw [regT_put _ _ _ _ _ (hsl i di hdi)]
          · unfold updF
            by_cases hne : j = i
            · subst hne
              rw [hdi] at e
              cases e
              rw [if_pos rfl]
              exact hg
            · have h3 : d ≠ di := fun e' => hne (hinj j i d e (e' ▸ hdi))
              rw [if_neg h3]
              have hLj : L j = true := by simpa [hne] using hj
              have hjs : [s].contains j = false := by
                have : j ≠ s := fun e' => by rw [e', p2] at e; cases e
                simpa using this
              exact (hall j (by have := dstN_lt e; omega) hjs).1 _ _ _ (hL j d e hLj) hb
          · have hix : L ix = true := needsN_out hc _ _ _ p5 (hc s hls)
            have hiy : L iy = true := needsN_out hc _ _ _ p6 (hc s hls)
            unfold updF
            constructor
            · rw [if_neg]
              intro e
              have := hinj ix i x p3 (e ▸ hdi)
              rw [this, hLi] at hix
              cases hix
            · rw [if_neg]
              intro e
              have := hinj iy i y p4 (e ▸ hdi)
              rw [this, hLi] at hiy
              cases hiy
      cases hls : L s with
      | false =>
        rw [if_neg (by simp)]
        refine h2 f w' hW (fun j hj d e => hL j d e (hpre j hj)) _ fun v w'' hg hb => ?_
        obtain ⟨f1, k2, k3, k4, _⟩ := hkeep v w'' hg hb
        exact ⟨hc', f1, w'', k2, k3, k4, by show w'' = if (s == i || L s) = true then w''.setRow (blkOf (f1 x)) (f1 y).cells else w''; rw [hLs, hls, if_neg (by simp)]⟩
      | true =>
        rw [if_pos rfl]
        have hf := List.all_eq_true.1 hfr i (List.mem_range.2 hi)
        simp only [Bool.or_eq_true] at hf
        have hcp : freeB ops i = true := by
          rcases hf with hf | hf | hf
          · exact absurd (by simpa using hf) his
          · exact hf
          · have := needsN_out hc _ _ _ hf (hc s hls)
            rw [hLi] at this
            cases this
        have h3 := h2 f w' hW (fun j hj d e => hL j d e (hpre j hj)) (fun a1 w1 => ∃ v, a1 = { tmps := regT base slots f, defers := df : Act }.put (dstN ops i) v ∧ lkG gs i v w1 ∧ Below w'.heap.size w' w1) (fun v w'' hg hb => ⟨v, rfl, hg, hb⟩)
        obtain ⟨v0, ⟨v, e1, e2, e3⟩, hgo⟩ := wpOp_free hcp h3
        refine hgo _ _ ?_
        rw [e1]
        obtain ⟨f1, k2, k3, k4, k5⟩ := hkeep v w' e2 e3
        obtain ⟨q1, q2⟩ := k5 hls
        exact ⟨hc', f1, w', k2, k3, k4, by show w'.setRow (blkOf (f x)) (f y).cells = if (s == i || L s) = true then w'.setRow (blkOf (f1 x)) (f1 y).cells else w'; rw [hLs, hls, if_pos rfl, q1, q2]⟩
  · rintro L a w ⟨hc, f, w', rfl, hW, hL, rfl⟩ hLall
    rw [if_pos (hLall _ p1)]
    exact h f w' hW (finF_of hl (fun j hj d e => hL j d e (hLall j hj)) hps)
theorem sto_own {i : Nat} {o : Oper} {f : Nat → Value} {w2 : World} {K : Act → World → Prop} (ty : TypeId) (x y : Nat) (b : Nat) (cells : Array Value) (t : TypeId) (old : Array Value) (ho : ops[i]? = some o) (hg : o.guard = none) (hd : o.dst = none) (hop : o.op = .store ty (.tmp x) (.tmp y))
    (hxs : slots.contains x = true) (hxz : decide (x < base.size) = true) (hx : f x = .pointer (some ⟨b, 0, none⟩)) (hys : slots.contains y = true) (hyz : decide (y < base.size) = true) (hy : f y = .agg cells) (hgr : w2.heap[b]? = some (.cells old t (0, 0))) (hi : (P.info? ty).map (·.size) = some cells.size) (hold : old.size = cells.size) (h1 : cells.all (·.oneCell') = true)
    (hK : K { tmps := regT base slots f, defers := df } (w2.setRow (blkOf (f x)) (f y).cells)) : wpOp P ops Q i K { tmps := regT base slots f, defers := df } w2 := by
  unfold wpOp
  rw [ho]
  simp only [wanted_none hg, if_true]
  have hx' : (regT base slots f).getD x undef = .pointer (some ⟨b, 0, none⟩) := (regT_in (by simpa using hxs) (of_decide_eq_true hxz)).trans hx
  have hy' : (regT base slots f).getD y undef = .agg cells := (regT_in (by simpa using hys) (of_decide_eq_true hyz)).trans hy
  refine .inl (wp_store_row ty (.tmp x) (.tmp y) hop b cells hx' hy' t old hgr hi hold h1 ?_)
  rw [hd]
  rw [hx, hy] at hK
  exact hK
end
end Go.Proofs.Ytnpiepimajippaa
namespace Go.Proofs.Ytnpiepimajippaa
open Go.RowKit St Pm
def tA : ByteArray := ⟨#[97]⟩
def tB : ByteArray := ⟨#[98]⟩
def tC : ByteArray := ⟨#[99]⟩
theorem at_ok (g : Int) (x : ByteArray) (h1 : 1 ≤ g) (h2 : g ≤ 100) (hx : x.size ≤ 256) : okV (atV g x) = true := by
  refine okV_iff.2 ⟨Sv.ok_iff.2 ⟨h1, ?_, ?_, ?_, ?_, ?_, ?_, ?_, ?_⟩, hx⟩
  · show g ≤ _; omega
  · show (0 : Int) ≤ 0; omega
  · show (0 : Int) < 8; omega
  · show okLabel [97] = true; decide
  · show (1 : Int) ≤ 1; omega
  · show (1 : Int) ≤ _; omega
  · show (0 : Int) ≤ 0; omega
  · show (0 : Int) < 64; omega
theorem at_lt (g h : Int) (x y : ByteArray) : decide (svC (atV g x).1 (atV h y).1 < 0) = decide (g < h) := by
  have e : txtC labA labA = 0 := by unfold txtC; rw [klt_irrefl]; rfl
  show decide (firstC (firstC (numC g h) (firstC (firstC (numC 0 0) (txtC labA labA)) (numC 1 1))) (numC 0 0) < 0) = _
  rw [e, show numC 0 0 = 0 from rfl, show numC 1 1 = 0 from rfl]
  show decide (firstC (firstC (numC g h) 0) 0 < 0) = _
  unfold numC firstC
  by_cases h1 : g < h
  · rw [if_pos h1]; simp [h1]
  · rw [if_neg h1]
    by_cases h2 : g > h
    · rw [if_pos h2]; simp [h1]
    · rw [if_neg h2]; simp [h1]
theorem k_sort : sortV [atV 2 tB, atV 1 tA] = [atV 1 tA, atV 2 tB] := by
  show insV (atV 1 tA) (insV (atV 2 tB) []) = _
  have e1 : insV (atV 2 tB) [] = [atV 2 tB] := rfl
  rw [e1]
  unfold insV
  have e2 : aheadV (atV 1 tA) (atV 2 tB) = false := by
    unfold aheadV
    rw [at_lt]
    simp [atV]
  rw [List.takeWhile_cons, List.dropWhile_cons, e2]
  rfl
theorem k_may : mayV [atV 2 tB, atV 1 tA] = true := mayV_iff.2 ⟨fun x hx => by
  simp only [List.mem_cons, List.not_mem_nil, or_false] at hx
  rcases hx with rfl | rfl
  · exact at_ok _ _ (by omega) (by omega) (by decide)
  · exact at_ok _ _ (by omega) (by omega) (by decide), by simp [atV]⟩
theorem k_not : mayV [atV 1 tA, atV 1 tB] = false := by
  cases h : mayV [atV 1 tA, atV 1 tB] with
  | false => rfl
  | true => have := (mayV_iff.1 h).2; simp [atV] at this
theorem k_beh (g : Int) : behindV [atV 1 tA, atV 2 tB] (atV g ⟨#[]⟩).1 = decide (2 < g) := at_lt 2 g tB ⟨#[]⟩
theorem k_fit (g : Int) (h1 : 1 ≤ g) (h2 : g ≤ 100) : okV ((atV g ⟨#[]⟩).1, tC) = true := at_ok g tC h1 h2 (by decide)
theorem k_lab (L : List Ev) (h : ∀ x ∈ L, x.1.l = labA) : ∀ e ∈ L, e.1.l.size ≤ 9223372036854775807 := fun e he => by rw [h e he]; decide
set_option maxRecDepth 100000 in
set_option maxHeartbeats 4000000 in
theorem known_12 (w : World) : Calls Try.prog 14 #[] w fun e w' => e = .returned (.bool true) ∧ Below w.heap.size w w' := by
  have HC : Hid (Chain [w] w) := Lib.hid (Chain.one w)
  go_enter Try.func14, Try.ntmps14
  go_wp2_with fail
  refine (at_12 2 ⟨#[98]⟩ _).mono ?_
  rintro e w1 ⟨rfl, hb⟩
  replace HC := Lib.hid (HC.out.push hb)
  clear hb
  go_wp2_with fail
  refine (at_12 1 ⟨#[97]⟩ _).mono ?_
  rintro e w2 ⟨rfl, hb⟩
  replace HC := Lib.hid (HC.out.push hb)
  clear hb
  go_wp2_with fail
  obtain ⟨c3, hc3⟩ : ∃ c, w2.heap.size = c := ⟨_, rfl⟩
  try rw [hc3]
  obtain ⟨w3, hw3⟩ : ∃ X, allocs w2 [.cells #[.int .i64 2, .int .i64 0, .string labA, .int .i64 1, .int .i64 0, .string ⟨#[98]⟩, .int .i64 1, .int .i64 0, .string labA, .int .i64 1, .int .i64 0, .string ⟨#[97]⟩] 47] = X := ⟨_, rfl⟩
  rw [show w2.alloc (.cells #[.int .i64 2, .int .i64 0, .string labA, .int .i64 1, .int .i64 0, .string ⟨#[98]⟩, .int .i64 1, .int .i64 0, .string labA, .int .i64 1, .int .i64 0, .string ⟨#[97]⟩] 47) = w3 from hw3]
  have hb : Below w2.heap.size w2 w3 := by rw [← hw3]; exact allocs_below _ _
  have HE : Hid (w3.heap[c3]? = some (.cells #[.int .i64 2, .int .i64 0, .string labA, .int .i64 1, .int .i64 0, .string ⟨#[98]⟩, .int .i64 1, .int .i64 0, .string labA, .int .i64 1, .int .i64 0, .string ⟨#[97]⟩] 47 (0, 0))) := Lib.hid (by have := allocs_get [.cells #[.int .i64 2, .int .i64 0, .string labA, .int .i64 1, .int .i64 0, .string ⟨#[98]⟩, .int .i64 1, .int .i64 0, .string labA, .int .i64 1, .int .i64 0, .string ⟨#[97]⟩] 47] w2 0 _ rfl; rw [hw3, hc3] at this; exact this)
  have Sc3 : Hid (w2.heap.size = c3) := Lib.hid hc3
  replace HC := Lib.hid (HC.out.push hb)
  clear hb hw3 hc3
  refine (of_reg12 [atV 2 tB, atV 1 tA] (some ⟨c3, 0, none⟩) 2 2 _ (cells_row HE.out) rfl (by omega) (k_lab _ (by simp [atV]))).mono ?_
  rintro e w4 ⟨t, ce, rfl, ht, hb, _, hP⟩
  replace HC := Lib.hid (HC.out.push hb)
  clear hb
  have T4 := Lib.hid ht
  obtain ⟨rfl, hr⟩ : ce = 0 ∧ Reg [atV 1 tA, atV 2 tB] t := by
    rcases hP with ⟨_, h1, h2⟩ | ⟨h, _⟩
    · rw [k_sort] at h2; exact ⟨h1, h2⟩
    · rw [k_may] at h; cases h
  have R4 := Lib.hid hr
  clear hP hr ht
  go_upto_region 2 with (fail)
  obtain ⟨c5, hc5⟩ : ∃ c, w4.heap.size = c := ⟨_, rfl⟩
  try rw [hc5]
  obtain ⟨w5, hw5⟩ : ∃ X, allocs w4 [.cells #[.pointer (pa t)] 27] = X := ⟨_, rfl⟩
  rw [show w4.alloc (.cells #[.pointer (pa t)] 27) = w5 from hw5]
  have hb : Below w4.heap.size w4 w5 := by rw [← hw5]; exact allocs_below _ _
  have HM : Hid (w5.heap[c5]? = some (.cells #[.pointer (pa t)] 27 (0, 0))) := Lib.hid (by have := allocs_get [.cells #[.pointer (pa t)] 27] w4 0 _ rfl; rw [hw5, hc5] at this; exact this)
  have Sc5 : Hid (w4.heap.size = c5) := Lib.hid hc5
  replace HC := Lib.hid (HC.out.push hb)
  clear hb hw5 hc5
  have kM0 := cell_of_one HM.out
  go_wp2_with fail
  refine (txt_reg12 _ (T4.out.below (HC.out.to w4 (by simp)) rfl) R4.out (by simp)).mono ?_
  rintro e w6 ⟨vt, rfl, hb, hown⟩
  clear kM0
  replace HC := Lib.hid (HC.out.push hb)
  clear hb
  obtain ⟨at6, ct6, rfl, _⟩ := own_slice hown
  have X6 : Hid (CellsAt w6 at6 (txV [tA, tB])) := Lib.hid (CellsAt.ownN hown)
  clear hown
  try simp only [List.length_cons, List.length_nil, Nat.zero_add, Nat.reduceAdd]
  have kM0 := cell_of_one (boxStays HM.out (HC.out.to w5 (by simp)))
  go_wp2_with fail
  refine (one_reg _ (T4.out.below (HC.out.to w4 (by simp)) rfl) R4.out (by simp)).mono ?_
  rintro e w7 ⟨rfl, hb⟩
  clear kM0
  replace HC := Lib.hid (HC.out.push hb)
  clear hb
  simp only [oneE]
  go_upto_region 4 with (fail)
  have M7 := Lib.hid (boxStays HM.out (HC.out.to w5 (by simp)))
  have T7 := Lib.hid (T4.out.below (HC.out.to w4 (by simp)) rfl)
  refine relG_start (slots := [33, 34, 35, 36, 32, 37, 38, 7, 8]) (so := [8]) (by kernel_rfl) (by kernel_rfl) (by rfl) ?_
  refine relG_pure (i := 0) (o := ⟨some 33, _, _, _, _, _⟩) (v := ?v1) [] [1] rfl rfl (by kernel_rfl) (by kernel_rfl) (fun t w1 hB hf hbf => ?y1) ?n1
  case y1 =>
    simp only [DepF, BasF, List.getD_cons_zero, List.getD_cons_succ] at hbf
    clear hf
    obtain ⟨⟨b1, k1⟩, _⟩ := hbf
    have m0 := cell_of_one (boxStays M7.out hB)
    refine Or.inl ⟨wanted_none rfl, ?_⟩
    rintro _ rfl
    go_simp <;> with_reducible rfl
  refine relG_call (i := 1) (o := ⟨some 34, _, _, _, _, _⟩) ((fun v _ => v = .agg #[.int .i64 3, .int .i64 0, .string labA, .int .i64 1, .int .i64 0, .string ⟨#[]⟩])) [] [] rfl rfl (by kernel_rfl) (by kernel_rfl) ((fun _ _ _ h _ => h)) ?_ ?_
  · intro t w1 hB hf hbf K hK
    clear hf
    clear hbf
    have m0 := cell_of_one (boxStays M7.out hB)
    refine ⟨wanted_none rfl, ?_⟩
    go_simp
    refine (at_12 3 ⟨#[]⟩ w1).mono ?_
    rintro e w2 ⟨rfl, hb⟩
    exact hK.out _ w2 (rfl) hb
  refine relG_pure (i := 2) (o := ⟨some 35, _, _, _, _, _⟩) (v := ?v2) [(1, 34, 0)] [] rfl rfl (by kernel_rfl) (by kernel_rfl) (fun t w1 hB hf hbf => ?y2) ?n2
  case y2 =>
    simp only [DepF, BasF, List.getD_cons_zero, List.getD_cons_succ] at hf
    obtain ⟨⟨_, ⟨e34, i34⟩, rfl⟩, _⟩ := hf
    clear hbf
    have m0 := cell_of_one (boxStays M7.out hB)
    have fd := fld_st 3 0 1 0 labA ⟨#[]⟩
    refine Or.inl ⟨wanted_none rfl, ?_⟩
    rintro _ rfl
    go_simp <;> with_reducible rfl
  refine relG_call (i := 3) (o := ⟨some 36, _, _, _, _, _⟩) ((fun v w' => ∃ m : Tr ByteArray, v = .tuple #[.agg #[.pointer (pa m)], .int .i64 0] ∧ AtS w' m ∧ Reg [((atV 3 ⟨#[]⟩).1, tC)] m)) [(0, 33, 2), (2, 35, 0)] [] rfl rfl (by kernel_rfl) (by kernel_rfl) ((fun v w' w'' h hb => by obtain ⟨m, e1, e2, e3⟩ := h; exact ⟨m, e1, e2.below hb rfl, e3⟩)) ?_ ?_
  · intro t w1 hB hf hbf K hK
    simp only [DepF, BasF, List.getD_cons_zero, List.getD_cons_succ] at hf
    obtain ⟨⟨_, ⟨e33, i33⟩, rfl⟩, ⟨_, ⟨e35, i35⟩, rfl⟩, _⟩ := hf
    clear hbf
    have m0 := cell_of_one (boxStays M7.out hB)
    refine ⟨wanted_none rfl, ?_⟩
    go_simp
    refine (wr_reg (atV 3 ⟨#[]⟩).1 tC w1 (T7.out.below hB rfl) R4.out (by simp) (by decide)).mono ?_
    rintro e w2 ⟨m, ce, rfl, hm, hb, hP⟩
    exact hK.out _ w2 ((by rcases hP with ⟨_, rfl, h3⟩ | ⟨h, _⟩; exact ⟨m, rfl, hm, h3⟩; rw [k_beh, k_fit 3 (by omega) (by omega)] at h; simp at h)) hb
  refine relG_call (i := 4) (o := ⟨some 32, _, _, _, _, _⟩) ((fun v w' => ∃ m : Tr ByteArray, v = .tuple #[.agg #[.pointer (pa m)], .int .i64 0] ∧ AtS w' m ∧ Reg [((atV 3 ⟨#[]⟩).1, tC)] m)) [(3, 36, 0)] [] rfl rfl (by kernel_rfl) (by kernel_rfl) ((fun v w' w'' h hb => by obtain ⟨m, e1, e2, e3⟩ := h; exact ⟨m, e1, e2.below hb rfl, e3⟩)) ?_ ?_
  · intro t w1 hB hf hbf K hK
    simp only [DepF, BasF, List.getD_cons_zero, List.getD_cons_succ] at hf
    obtain ⟨⟨_, ⟨e36, i36⟩, ⟨m, rfl, hm, hmr⟩⟩, _⟩ := hf
    clear hbf
    have m0 := cell_of_one (boxStays M7.out hB)
    refine ⟨wanted_none rfl, ?_⟩
    go_simp
    exact hK.out _ _ (⟨m, rfl, hm, hmr⟩) (Below.refl _ _)
  refine relG_call (i := 5) (o := ⟨some 37, _, _, _, _, _⟩) ((fun v w' => ∃ m : Tr ByteArray, v = .agg #[.pointer (pa m)] ∧ AtS w' m ∧ Reg [((atV 3 ⟨#[]⟩).1, tC)] m)) [(4, 32, 0)] [] rfl rfl (by kernel_rfl) (by kernel_rfl) ((fun v w' w'' h hb => by obtain ⟨m, e1, e2, e3⟩ := h; exact ⟨m, e1, e2.below hb rfl, e3⟩)) ?_ ?_
  · intro t w1 hB hf hbf K hK
    simp only [DepF, BasF, List.getD_cons_zero, List.getD_cons_succ] at hf
    obtain ⟨⟨_, ⟨e32, i32⟩, ⟨m, rfl, hm, hmr⟩⟩, _⟩ := hf
    clear hbf
    have m0 := cell_of_one (boxStays M7.out hB)
    refine ⟨wanted_none rfl, ?_⟩
    go_simp
    exact hK.out _ _ (⟨m, rfl, hm, hmr⟩) (Below.refl _ _)
  refine relG_pure (i := 6) (o := ⟨some 38, _, _, _, _, _⟩) (v := ?v3) [(4, 32, 1)] [] rfl rfl (by kernel_rfl) (by kernel_rfl) (fun t w1 hB hf hbf => ?y3) ?n3
  case y3 =>
    simp only [DepF, BasF, List.getD_cons_zero, List.getD_cons_succ] at hf
    obtain ⟨⟨_, ⟨e32, i32⟩, ⟨m, rfl, hm, hmr⟩⟩, _⟩ := hf
    clear hbf
    have m0 := cell_of_one (boxStays M7.out hB)
    refine Or.inl ⟨wanted_none rfl, ?_⟩
    rintro _ rfl
    go_simp <;> with_reducible rfl
  refine relG_call (i := 7) (o := ⟨some 7, _, _, _, _, _⟩) ((fun v w' => ∃ b, v = .pointer (some ⟨b, 0, none⟩) ∧ w7.heap.size ≤ b ∧ w'.heap[b]? = some (.cells #[.pointer none] 27 (0, 0)))) [] [] rfl rfl (by kernel_rfl) (by kernel_rfl) ((fun v w' w'' h hb => by obtain ⟨b, e1, e2, e3⟩ := h; exact ⟨b, e1, e2, boxStays e3 hb⟩)) ?_ ?_
  · intro t w1 hB hf hbf K hK
    clear hf
    clear hbf
    have m0 := cell_of_one (boxStays M7.out hB)
    refine ⟨wanted_none rfl, ?_⟩
    go_simp
    exact hK.out _ _ (⟨_, rfl, hB.size, heap_alloc_new _ _⟩) (below_new _ _)
  refine relG_skip 8 rfl (by rfl) ?_ (by kernel_rfl)
  refine relG_pure (i := 9) (o := ⟨some 8, _, _, _, _, _⟩) (v := ?v4) [(6, 38, 2)] [] rfl rfl (by kernel_rfl) (by kernel_rfl) (fun t w1 hB hf hbf => ?y4) ?n4
  case y4 =>
    simp only [DepF, BasF, List.getD_cons_zero, List.getD_cons_succ] at hf
    obtain ⟨⟨_, ⟨e38, i38⟩, rfl⟩, _⟩ := hf
    clear hbf
    have m0 := cell_of_one (boxStays M7.out hB)
    refine Or.inl ⟨wanted_none rfl, ?_⟩
    rintro _ rfl
    go_simp <;> with_reducible rfl
  refine relG_own 8 7 7 37 5 [(0, 33, 9), (1, 34, 8), (2, 35, 7), (3, 36, 6), (4, 32, 5), (5, 37, 4), (6, 38, 3), (7, 7, 2), (9, 8, 0)] [(0, 33, 9), (1, 34, 8), (2, 35, 7), (3, 36, 6), (4, 32, 5), (5, 37, 4), (7, 7, 2)] (by kernel_rfl) rfl (by kernel_rfl) (by kernel_rfl) (by kernel_rfl) (by kernel_rfl) ?_ (fun f wE hB hf => ?_)
  · intro f w1 hB hf K hK
    simp only [FinF, List.getD_cons_zero, List.getD_cons_succ] at hf
    obtain ⟨⟨_, e33, rfl⟩, ⟨_, e34, rfl⟩, ⟨_, e35, rfl⟩, ⟨_, e36, ⟨m, rfl, hm, hmr⟩⟩, ⟨_, e32, ⟨m, rfl, hm, hmr⟩⟩, ⟨_, e37, ⟨n, rfl, hn, hnr⟩⟩, ⟨_, e7, ⟨bb, rfl, hbb, hbr⟩⟩, _⟩ := hf
    have m0 := cell_of_one (boxStays M7.out hB)
    refine sto_own (i := 8) 27 7 37 bb (#[.pointer (pa n)]) _ _ rfl rfl rfl rfl (by rfl) (by rfl) e7 (by rfl) (by rfl) e37 (hbr) (by kernel_rfl) rfl (mp_one _) hK
  simp only [FinF, List.getD_cons_zero, List.getD_cons_succ] at hf
  obtain ⟨⟨_, e33, rfl⟩, ⟨_, e34, rfl⟩, ⟨_, e35, rfl⟩, ⟨_, e36, ⟨m, rfl, hm, hmr⟩⟩, ⟨_, e32, ⟨m, rfl, hm, hmr⟩⟩, ⟨_, e37, ⟨n, rfl, hn, hnr⟩⟩, ⟨_, e38, rfl⟩, ⟨_, e7, ⟨bb, rfl, hbb, hbr⟩⟩, ⟨_, e8, rfl⟩, _⟩ := hf
  simp only [blkOf, Value.cells, regT, List.foldl_cons, List.foldl_nil, List.setIfInBounds_toArray, List.set_cons_zero, List.set_cons_succ, e33, e34, e35, e36, e32, e37, e38, e7, e8]
  clear e33 e34 e35 e36 e32 e37 e38 e7 e8
  rw [setRow_one hbr]
  have N7 := Lib.hid hnr
  have hn8 := hn.setBox hbr (by decide) 0 (.pointer (pa n))
  have hN8 := Boxed.set (t := 27) (.pointer (pa n)) hbr
  have hb8 := hB.setCell (p := ⟨bb, 0, none⟩) hbb (.pointer (pa n))
  have QA := Lib.hid hn8
  have QB := Lib.hid hN8
  have QC := Lib.hid hb8
  clear hn8 hN8 hb8 hB hn hnr hm hmr hbb hbr
  go_upto_region 5 with (fail)
  generalize wE.setCell ⟨bb, 0, none⟩ (.pointer (pa n)) = w8 at *
  have hb := QC.out
  have HN : Hid (w8.heap[bb]? = some (.cells #[.pointer (pa n)] 27 (0, 0))) := Lib.hid QB.out
  replace HC := Lib.hid (HC.out.push hb)
  clear hb
  have kN0 := cell_of_one HN.out
  go_wp2_with fail
  refine (one_reg _ QA.out N7.out (by simp)).mono ?_
  rintro e w9 ⟨rfl, hb⟩
  clear kN0
  replace HC := Lib.hid (HC.out.push hb)
  clear hb
  simp only [oneE]
  go_wp2_with fail
  refine (at_12 1 ⟨#[97]⟩ _).mono ?_
  rintro e w10 ⟨rfl, hb⟩
  replace HC := Lib.hid (HC.out.push hb)
  clear hb
  go_wp2_with fail
  refine (at_12 1 ⟨#[98]⟩ _).mono ?_
  rintro e w11 ⟨rfl, hb⟩
  replace HC := Lib.hid (HC.out.push hb)
  clear hb
  go_wp2_with fail
  obtain ⟨c12, hc12⟩ : ∃ c, w11.heap.size = c := ⟨_, rfl⟩
  try rw [hc12]
  obtain ⟨w12, hw12⟩ : ∃ X, allocs w11 [.cells #[.int .i64 1, .int .i64 0, .string labA, .int .i64 1, .int .i64 0, .string ⟨#[97]⟩, .int .i64 1, .int .i64 0, .string labA, .int .i64 1, .int .i64 0, .string ⟨#[98]⟩] 47] = X := ⟨_, rfl⟩
  rw [show w11.alloc (.cells #[.int .i64 1, .int .i64 0, .string labA, .int .i64 1, .int .i64 0, .string ⟨#[97]⟩, .int .i64 1, .int .i64 0, .string labA, .int .i64 1, .int .i64 0, .string ⟨#[98]⟩] 47) = w12 from hw12]
  have hb : Below w11.heap.size w11 w12 := by rw [← hw12]; exact allocs_below _ _
  have HF : Hid (w12.heap[c12]? = some (.cells #[.int .i64 1, .int .i64 0, .string labA, .int .i64 1, .int .i64 0, .string ⟨#[97]⟩, .int .i64 1, .int .i64 0, .string labA, .int .i64 1, .int .i64 0, .string ⟨#[98]⟩] 47 (0, 0))) := Lib.hid (by have := allocs_get [.cells #[.int .i64 1, .int .i64 0, .string labA, .int .i64 1, .int .i64 0, .string ⟨#[97]⟩, .int .i64 1, .int .i64 0, .string labA, .int .i64 1, .int .i64 0, .string ⟨#[98]⟩] 47] w11 0 _ rfl; rw [hw12, hc12] at this; exact this)
  have Sc12 : Hid (w11.heap.size = c12) := Lib.hid hc12
  replace HC := Lib.hid (HC.out.push hb)
  clear hb hw12 hc12
  refine (of_reg12 [atV 1 tA, atV 1 tB] (some ⟨c12, 0, none⟩) 2 2 _ (cells_row HF.out) rfl (by omega) (k_lab _ (by simp [atV]))).mono ?_
  rintro e w13 ⟨t2, ce, rfl, _, hb, _, hP⟩
  replace HC := Lib.hid (HC.out.push hb)
  clear hb
  obtain ⟨rfl, rfl⟩ : ce = 2 ∧ t2 = .nil := by
    rcases hP with ⟨h, _⟩ | ⟨_, h1, h2⟩
    · rw [k_not] at h; cases h
    · exact ⟨h1, h2⟩
  clear hP
  rw [show pa (Tr.nil : Tr ByteArray) = none from rfl]
  go_upto_region 7 with (fail)
  obtain ⟨c14, hc14⟩ : ∃ c, w13.heap.size = c := ⟨_, rfl⟩
  try rw [hc14]
  obtain ⟨w14, hw14⟩ : ∃ X, allocs w13 [.cells #[.pointer none] 27] = X := ⟨_, rfl⟩
  rw [show w13.alloc (.cells #[.pointer none] 27) = w14 from hw14]
  have hb : Below w13.heap.size w13 w14 := by rw [← hw14]; exact allocs_below _ _
  have Sc14 : Hid (w13.heap.size = c14) := Lib.hid hc14
  replace HC := Lib.hid (HC.out.push hb)
  clear hb hw14 hc14
  have M14 := Lib.hid (boxStays HM.out (HC.out.to w5 (by simp)))
  have T14 := Lib.hid (T4.out.below (HC.out.to w4 (by simp)) rfl)
  refine relG_start (slots := [52, 53, 54, 55, 51, 56, 57, 13, 14]) (so := [8]) (by kernel_rfl) (by kernel_rfl) (by rfl) ?_
  refine relG_pure (i := 0) (o := ⟨some 52, _, _, _, _, _⟩) (v := ?v5) [] [1] rfl rfl (by kernel_rfl) (by kernel_rfl) (fun t w1 hB hf hbf => ?y5) ?n5
  case y5 =>
    simp only [DepF, BasF, List.getD_cons_zero, List.getD_cons_succ] at hbf
    clear hf
    obtain ⟨⟨b1, k1⟩, _⟩ := hbf
    have m0 := cell_of_one (boxStays M14.out hB)
    refine Or.inl ⟨wanted_none rfl, ?_⟩
    rintro _ rfl
    go_simp <;> with_reducible rfl
  refine relG_call (i := 1) (o := ⟨some 53, _, _, _, _, _⟩) ((fun v _ => v = .agg #[.int .i64 2, .int .i64 0, .string labA, .int .i64 1, .int .i64 0, .string ⟨#[]⟩])) [] [] rfl rfl (by kernel_rfl) (by kernel_rfl) ((fun _ _ _ h _ => h)) ?_ ?_
  · intro t w1 hB hf hbf K hK
    clear hf
    clear hbf
    have m0 := cell_of_one (boxStays M14.out hB)
    refine ⟨wanted_none rfl, ?_⟩
    go_simp
    refine (at_12 2 ⟨#[]⟩ w1).mono ?_
    rintro e w2 ⟨rfl, hb⟩
    exact hK.out _ w2 (rfl) hb
  refine relG_pure (i := 2) (o := ⟨some 54, _, _, _, _, _⟩) (v := ?v6) [(1, 53, 0)] [] rfl rfl (by kernel_rfl) (by kernel_rfl) (fun t w1 hB hf hbf => ?y6) ?n6
  case y6 =>
    simp only [DepF, BasF, List.getD_cons_zero, List.getD_cons_succ] at hf
    obtain ⟨⟨_, ⟨e53, i53⟩, rfl⟩, _⟩ := hf
    clear hbf
    have m0 := cell_of_one (boxStays M14.out hB)
    have fd := fld_st 2 0 1 0 labA ⟨#[]⟩
    refine Or.inl ⟨wanted_none rfl, ?_⟩
    rintro _ rfl
    go_simp <;> with_reducible rfl
  refine relG_call (i := 3) (o := ⟨some 55, _, _, _, _, _⟩) ((fun v w' => v = .tuple #[.agg #[.pointer none], .int .i64 2])) [(0, 52, 2), (2, 54, 0)] [] rfl rfl (by kernel_rfl) (by kernel_rfl) ((fun v w' w'' h hb => h)) ?_ ?_
  · intro t w1 hB hf hbf K hK
    simp only [DepF, BasF, List.getD_cons_zero, List.getD_cons_succ] at hf
    obtain ⟨⟨_, ⟨e52, i52⟩, rfl⟩, ⟨_, ⟨e54, i54⟩, rfl⟩, _⟩ := hf
    clear hbf
    have m0 := cell_of_one (boxStays M14.out hB)
    refine ⟨wanted_none rfl, ?_⟩
    go_simp
    refine (wr_reg (atV 2 ⟨#[]⟩).1 tC w1 (T14.out.below hB rfl) R4.out (by simp) (by decide)).mono ?_
    rintro e w2 ⟨m, ce, rfl, hm, hb, hP⟩
    exact hK.out _ w2 ((by rcases hP with ⟨h, _⟩ | ⟨_, h1, h2⟩; rw [k_beh] at h; simp at h; rw [h1, h2]; rfl)) hb
  refine relG_pure (i := 4) (o := ⟨some 51, _, _, _, _, _⟩) (v := ?v7) [(3, 55, 0)] [] rfl rfl (by kernel_rfl) (by kernel_rfl) (fun t w1 hB hf hbf => ?y7) ?n7
  case y7 =>
    simp only [DepF, BasF, List.getD_cons_zero, List.getD_cons_succ] at hf
    obtain ⟨⟨_, ⟨e55, i55⟩, rfl⟩, _⟩ := hf
    clear hbf
    have m0 := cell_of_one (boxStays M14.out hB)
    refine Or.inl ⟨wanted_none rfl, ?_⟩
    rintro _ rfl
    go_simp <;> with_reducible rfl
  refine relG_pure (i := 5) (o := ⟨some 56, _, _, _, _, _⟩) (v := ?v8) [(4, 51, 0)] [] rfl rfl (by kernel_rfl) (by kernel_rfl) (fun t w1 hB hf hbf => ?y8) ?n8
  case y8 =>
    simp only [DepF, BasF, List.getD_cons_zero, List.getD_cons_succ] at hf
    obtain ⟨⟨_, ⟨e51, i51⟩, rfl⟩, _⟩ := hf
    clear hbf
    have m0 := cell_of_one (boxStays M14.out hB)
    refine Or.inl ⟨wanted_none rfl, ?_⟩
    rintro _ rfl
    go_simp <;> with_reducible rfl
  refine relG_pure (i := 6) (o := ⟨some 57, _, _, _, _, _⟩) (v := ?v9) [(4, 51, 1)] [] rfl rfl (by kernel_rfl) (by kernel_rfl) (fun t w1 hB hf hbf => ?y9) ?n9
  case y9 =>
    simp only [DepF, BasF, List.getD_cons_zero, List.getD_cons_succ] at hf
    obtain ⟨⟨_, ⟨e51, i51⟩, rfl⟩, _⟩ := hf
    clear hbf
    have m0 := cell_of_one (boxStays M14.out hB)
    refine Or.inl ⟨wanted_none rfl, ?_⟩
    rintro _ rfl
    go_simp <;> with_reducible rfl
  refine relG_call (i := 7) (o := ⟨some 13, _, _, _, _, _⟩) ((fun v w' => ∃ b, v = .pointer (some ⟨b, 0, none⟩) ∧ w14.heap.size ≤ b ∧ w'.heap[b]? = some (.cells #[.pointer none] 27 (0, 0)))) [] [] rfl rfl (by kernel_rfl) (by kernel_rfl) ((fun v w' w'' h hb => by obtain ⟨b, e1, e2, e3⟩ := h; exact ⟨b, e1, e2, boxStays e3 hb⟩)) ?_ ?_
  · intro t w1 hB hf hbf K hK
    clear hf
    clear hbf
    have m0 := cell_of_one (boxStays M14.out hB)
    refine ⟨wanted_none rfl, ?_⟩
    go_simp
    exact hK.out _ _ (⟨_, rfl, hB.size, heap_alloc_new _ _⟩) (below_new _ _)
  refine relG_skip 8 rfl (by rfl) ?_ (by kernel_rfl)
  refine relG_pure (i := 9) (o := ⟨some 14, _, _, _, _, _⟩) (v := ?v10) [(6, 57, 2)] [] rfl rfl (by kernel_rfl) (by kernel_rfl) (fun t w1 hB hf hbf => ?y10) ?n10
  case y10 =>
    simp only [DepF, BasF, List.getD_cons_zero, List.getD_cons_succ] at hf
    obtain ⟨⟨_, ⟨e57, i57⟩, rfl⟩, _⟩ := hf
    clear hbf
    have m0 := cell_of_one (boxStays M14.out hB)
    refine Or.inl ⟨wanted_none rfl, ?_⟩
    rintro _ rfl
    go_simp <;> with_reducible rfl
  refine relG_own 8 13 7 56 5 [(0, 52, 9), (1, 53, 8), (2, 54, 7), (3, 55, 6), (4, 51, 5), (5, 56, 4), (6, 57, 3), (7, 13, 2), (9, 14, 0)] [(0, 52, 9), (1, 53, 8), (2, 54, 7), (3, 55, 6), (4, 51, 5), (5, 56, 4), (7, 13, 2)] (by kernel_rfl) rfl (by kernel_rfl) (by kernel_rfl) (by kernel_rfl) (by kernel_rfl) ?_ (fun f wE hB hf => ?_)
  · intro f w1 hB hf K hK
    simp only [FinF, List.getD_cons_zero, List.getD_cons_succ] at hf
    obtain ⟨⟨_, e52, rfl⟩, ⟨_, e53, rfl⟩, ⟨_, e54, rfl⟩, ⟨_, e55, rfl⟩, ⟨_, e51, rfl⟩, ⟨_, e56, rfl⟩, ⟨_, e13, ⟨b2, rfl, hbb, hbr⟩⟩, _⟩ := hf
    have m0 := cell_of_one (boxStays M14.out hB)
    refine sto_own (i := 8) 27 13 56 b2 (#[.pointer none]) _ _ rfl rfl rfl rfl (by rfl) (by rfl) e13 (by rfl) (by rfl) e56 (hbr) (by kernel_rfl) rfl (mp_one _) hK
  simp only [FinF, List.getD_cons_zero, List.getD_cons_succ] at hf
  obtain ⟨⟨_, e52, rfl⟩, ⟨_, e53, rfl⟩, ⟨_, e54, rfl⟩, ⟨_, e55, rfl⟩, ⟨_, e51, rfl⟩, ⟨_, e56, rfl⟩, ⟨_, e57, rfl⟩, ⟨_, e13, ⟨b2, rfl, hbb, hbr⟩⟩, ⟨_, e14, rfl⟩, _⟩ := hf
  simp only [blkOf, Value.cells, regT, List.foldl_cons, List.foldl_nil, List.setIfInBounds_toArray, List.set_cons_zero, List.set_cons_succ, e52, e53, e54, e55, e51, e56, e57, e13, e14]
  clear e52 e53 e54 e55 e51 e56 e57 e13 e14
  rw [setRow_one hbr]
  have hb8 := hB.setCell (p := ⟨b2, 0, none⟩) hbb (.pointer none)
  have QD := Lib.hid hb8
  clear hb8 hB hbb hbr
  go_upto_region 8 with (fail)
  generalize wE.setCell ⟨b2, 0, none⟩ (.pointer none) = w15 at *
  have hb := QD.out
  replace HC := Lib.hid (HC.out.push hb)
  clear hb
  try simp only [List.append]
  go_wp2_with fail
  refine (num_12 0 _).mono ?_
  rintro e _ ⟨rfl, rfl⟩
  go_wp2_with fail
  refine (num_12 0 _).mono ?_
  rintro e _ ⟨rfl, rfl⟩
  go_wp2_with fail
  refine (num_12 0 _).mono ?_
  rintro e _ ⟨rfl, rfl⟩
  go_wp2_with fail
  obtain ⟨c16, hc16⟩ : ∃ c, w15.heap.size = c := ⟨_, rfl⟩
  try rw [hc16]
  obtain ⟨w16, hw16⟩ : ∃ X, allocs w15 [.cells #[.string ⟨#[97]⟩, .string ⟨#[98]⟩] 9] = X := ⟨_, rfl⟩
  rw [show w15.alloc (.cells #[.string ⟨#[97]⟩, .string ⟨#[98]⟩] 9) = w16 from hw16]
  have hb : Below w15.heap.size w15 w16 := by rw [← hw16]; exact allocs_below _ _
  have HX : Hid (w16.heap[c16]? = some (.cells #[.string ⟨#[97]⟩, .string ⟨#[98]⟩] 9 (0, 0))) := Lib.hid (by have := allocs_get [.cells #[.string ⟨#[97]⟩, .string ⟨#[98]⟩] 9] w15 0 _ rfl; rw [hw16, hc16] at this; exact this)
  have Sc16 : Hid (w15.heap.size = c16) := Lib.hid hc16
  replace HC := Lib.hid (HC.out.push hb)
  clear hb hw16 hc16
  refine (ref9_SameTexts [tA, tB] [tA, tB] at6 (some ⟨c16, 0, none⟩) 2 2 ct6 2 _ (X6.out.below (HC.out.to w6 (by simp)) rfl) (cells_row HX.out) rfl rfl (by omega)).mono ?_
  rintro e w17 ⟨rfl, hb⟩
  replace HC := Lib.hid (HC.out.push hb)
  clear hb
  rw [decide_eq_true rfl]
  have htc : tC.toList = [99] := by rw [ByteArray.toList_eq]; rfl
  have hcc : ∀ W, (binOp .eql 9 (.string tC) (.string ⟨#[99]⟩)).run Try.prog W = .ok (.bool true) W := fun W => by kernel_rfl
  go_wp2_with fail
  refine (num_12 2 _).mono ?_
  rintro e _ ⟨rfl, rfl⟩
  go_wp2_with fail
  refine (num_12 2 _).mono ?_
  rintro e _ ⟨rfl, rfl⟩
  go_wp2_with fail
  go_ret
  exact ⟨rfl, (HC.out.to w (by simp))⟩
end Go.Proofs.Ytnpiepimajippaa
namespace Go.Proofs.Ytnpiepimajippaa
open Go.RowKit
section
variable {P : Program} {md : Region.Mode} {ops : Array Oper} {Q : Exit → Act → World → Prop} {S : World → Prop} {T : List Nat}
def doneB (ops : Array Oper) (T : List Nat) (listed : Array Bool) : Bool := (List.range ops.size).all fun k => T.contains k || listed.getD k false
def anyT (P : Program) (md : Region.Mode) (ops : Array Oper) (Q : Exit → Act → World → Prop) (T : List Nat) (S : World → Prop) : Nat → Array Bool → Act → World → Prop
  | 0, listed, a, w => wpAny P md ops Q 0 listed a w
  | fuel + 1, listed, a, w => if doneB ops T listed = true then wpAny P md ops Q (fuel + 1) listed a w
    else (Region.ready md ops listed = [] → Q .normal a w) ∧ ∀ i ∈ Region.ready md ops listed, wpOp P ops Q i (fun a' w' => S w' ∧ anyT P md ops Q T S fuel (listed.setIfInBounds i true) a' w') a w
def AllReadyT (P : Program) (md : Region.Mode) (ops : Array Oper) (Q : Exit → Act → World → Prop) (T : List Nat) (S : World → Prop) (fuel : Nat) (listed : Array Bool) (a : Act) (w : World) (rs : List Nat) : Prop :=
  ∀ i ∈ rs, wpOp P ops Q i (fun a' w' => S w' ∧ anyT P md ops Q T S fuel (listed.setIfInBounds i true) a' w') a w
theorem AllReadyT.nil {fuel : Nat} {listed : Array Bool} {a : Act} {w : World} : AllReadyT P md ops Q T S fuel listed a w [] := fun _ h => by cases h
theorem AllReadyT.cons {fuel : Nat} {listed : Array Bool} {a : Act} {w : World} {i : Nat} {o : Oper} {rs : List Nat} (ho : ops[i]? = some o) (hw : Region.wanted o (yielded ops a.tmps) = true)
    (h : ∀ K' : Act → World → Prop, Shut (∀ a w, S w → (S w → anyT P md ops Q T S fuel (listed.setIfInBounds i true) a w) → K' a w) → Oper.wp P o a w K' Q)
    (hs : AllReadyT P md ops Q T S fuel listed a w rs) : AllReadyT P md ops Q T S fuel listed a w (i :: rs) := fun j hj => by
  rcases List.mem_cons.1 hj with rfl | hj
  · unfold wpOp
    simp only [ho]
    rw [if_pos hw]
    exact .inl (h _ (fun a w hS hW => ⟨hS, hW hS⟩))
  · exact hs j hj
end
end Go.Proofs.Ytnpiepimajippaa
namespace Go.Proofs.Ytnpiepimajippaa
open Go.RowKit Pm
def NodeMapS (W : World) (B : Nat) (ps : List Nat) : Prop :=
  ∃ (es : Array MapEntry) (clock : Nat), W.heap[B]? = some (.map es clock) ∧ es.toList.map (fun e => (e.key, e.val)) = ps.map fun b => (Value.pointer (some ⟨b, 0, none⟩), Value.bool true)
def NdsS (W : World) (ps : List Nat) : Prop := ∀ b ∈ ps, ∃ cs, W.heap[b]? = some (.cells cs 110 (0, 0))
theorem AtS.nds {w : World} {t : Tr ByteArray} (h : AtS w t) : NdsS w (blocks t) := by
  induction t with
  | nil => intro b hb; simp [blocks] at hb
  | node b l k v r ih1 ih2 =>
    obtain ⟨h1, h2, h3⟩ := h
    intro b' hb
    simp only [blocks, List.mem_append, List.mem_cons] at hb
    rcases hb with hb | rfl | hb
    · exact ih1 h2 b' hb
    · exact ⟨_, h1⟩
    · exact ih2 h3 b' hb
theorem ptr_equalS (w : World) (b b' : Nat) (h : NdsS w [b, b']) : (Op.equal 25 (.pointer (some ⟨b, 0, none⟩)) (.pointer (some ⟨b', 0, none⟩))).run Try.prog w = .ok (decide (b = b')) w := by
  have hp := Try.underlying25
  obtain ⟨j, hj, hs⟩ : ∃ j, Try.prog.info? 110 = some j ∧ j.size = 6 := by
    have h := infoNodeS
    cases hi : Try.prog.info? 110 with
    | none => rw [hi] at h; cases h
    | some j => rw [hi] at h; exact ⟨j, rfl, by simpa using h⟩
  obtain ⟨c1, h1⟩ := h b (by simp)
  obtain ⟨c2, h2⟩ := h b' (by simp)
  by_cases e : b = b'
  · subst e
    have h : ∀ d : Nat, (Op.equalIn (d + 1) 25 (.pointer (some ⟨b, 0, none⟩)) (.pointer (some ⟨b, 0, none⟩))).run Try.prog w = .ok true w := fun d => by
      simp [Op.equalIn, run_underlying hp, sizeOf, typeInfo, hj, run_sameAddr_same]
    simp [Op.equal, Op.maxDepth, h 9999]
  · have h : ∀ d : Nat, (Op.equalIn (d + 1) 25 (.pointer (some ⟨b, 0, none⟩)) (.pointer (some ⟨b', 0, none⟩))).run Try.prog w = .ok false w := fun d => by
      simp [Op.equalIn, run_underlying hp, sizeOf, typeInfo, hj, hs, run_sameAddr_other w (a := ⟨b, 0, none⟩) (b := ⟨b', 0, none⟩) (by simp [e]) h1 h2]
    simp [Op.equal, Op.maxDepth, h 9999, e]
theorem findAskingS (w : World) (b : Nat) : ∀ (es : List MapEntry) (ps : List Nat) (i : Nat), es.map (fun e => (e.key, e.val)) = ps.map (fun b => (Value.pointer (some ⟨b, 0, none⟩), Value.bool true)) → NdsS w (b :: ps) →
    (b ∉ ps ∧ (Instr.findAsking 25 (.pointer (some ⟨b, 0, none⟩)) es i).run Try.prog w = .ok none w) ∨ (b ∈ ps ∧ ∃ j, (Instr.findAsking 25 (.pointer (some ⟨b, 0, none⟩)) es i).run Try.prog w = .ok (some (j, .bool true)) w)
  | [], ps, i, h, _ => by
    have : ps = [] := by simpa using h.symm
    subst this
    exact .inl ⟨by simp, by simp [Instr.findAsking]⟩
  | e :: es, [], i, h, _ => by simp at h
  | e :: es, p :: ps, i, h, hn => by
    simp only [List.map_cons, List.cons.injEq, Prod.mk.injEq] at h
    obtain ⟨⟨hk, hv⟩, hr⟩ := h
    have he := ptr_equalS w b p (fun x hx => hn x (by simp at hx ⊢; rcases hx with h | h <;> simp [h]))
    by_cases e1 : b = p
    · subst e1
      refine .inr ⟨by simp, i, ?_⟩
      simp only [decide_true] at he
      simp [Instr.findAsking, hk, hv, he]
    · have hd : decide (b = p) = false := by simpa using e1
      rw [hd] at he
      rcases findAskingS w b es ps (i + 1) hr (fun x hx => hn x (by simp at hx ⊢; rcases hx with h | h <;> simp [h])) with ⟨h1, h2⟩ | ⟨h1, j, h2⟩
      · exact .inl ⟨by simp [e1, h1], by simp [Instr.findAsking, hk, he, h2]⟩
      · exact .inr ⟨by simp [h1], j, by simp [Instr.findAsking, hk, he, h2]⟩
theorem findKeyS (w : World) (b : Nat) (es : List MapEntry) (ps : List Nat) (h : es.map (fun e => (e.key, e.val)) = ps.map (fun b => (Value.pointer (some ⟨b, 0, none⟩), Value.bool true))) (hn : NdsS w (b :: ps)) :
    (b ∉ ps ∧ (Instr.findKey 25 (.pointer (some ⟨b, 0, none⟩)) es).run Try.prog w = .ok none w) ∨ (b ∈ ps ∧ ∃ j, (Instr.findKey 25 (.pointer (some ⟨b, 0, none⟩)) es).run Try.prog w = .ok (some (j, .bool true)) w) := by
  have hp := Try.underlying25
  cases es with
  | nil =>
    have : ps = [] := by simpa using h.symm
    subst this
    exact .inl ⟨by simp, by simp [Instr.findKey, run_underlying hp, Instr.findNow]⟩
  | cons e es =>
    have hs : ∀ v, Instr.sameNow (.pointer 110) (.pointer (some ⟨b, 0, none⟩)) v = none := fun v => by simp [Instr.sameNow]
    have hf : Instr.findNow (.pointer 110) (.pointer (some ⟨b, 0, none⟩)) (e :: es) 0 = none := by simp [Instr.findNow, hs]
    have := findAskingS w b (e :: es) ps 0 h hn
    simpa [Instr.findKey, run_underlying hp, hf] using this
theorem checkKeySS (w : World) (em : Bool) (n b : Nat) : (Instr.checkKey em (n + 1) 25 (.pointer (some ⟨b, 0, none⟩))).run Try.prog w = .ok () w := by
  have hp := Try.underlying25
  simp [Instr.checkKey, run_underlying hp]
theorem checkKeyNS (w : World) (em : Bool) (b : Nat) : (Instr.checkKey em 10000 25 (.pointer (some ⟨b, 0, none⟩))).run Try.prog w = .ok () w := checkKeySS w em 9999 b
theorem nodeMap_lookS {w : World} {B : Nat} {ps : List Nat} (h : NodeMapS w B ps) (b : Nat) (hn : NdsS w (b :: ps)) :
    (Instr.lookup 151 (.map (some B)) (.pointer (some ⟨b, 0, none⟩)) false).run Try.prog w = .ok (.bool (decide (b ∈ ps))) w := by
  obtain ⟨es, clock, hB, he⟩ := h
  have hm := Try.underlying151
  have hz : (zeroValue 4).run Try.prog w = .ok (.bool false) w := by kernel_rfl
  have hc := checkKeyNS w es.isEmpty b
  rcases findKeyS w b es.toList ps he hn with ⟨h1, h2⟩ | ⟨h1, j, h2⟩
  · unfold Instr.lookup
    simp [run_underlying hm, Go.MapKept.run_getObj_map hB, hc, h2, hz, h1]
  · unfold Instr.lookup
    simp [run_underlying hm, Go.MapKept.run_getObj_map hB, hc, h2, h1]
theorem nodeMap_putS {w : World} {B : Nat} {ps : List Nat} (h : NodeMapS w B ps) (b : Nat) (hn : NdsS w (b :: ps)) (hb : b ∉ ps) :
    ∃ o, (Instr.mapUpdate 151 (.map (some B)) (.pointer (some ⟨b, 0, none⟩)) (.bool true)).run Try.prog w = .ok () (w.putObj B o) ∧ NodeMapS (w.putObj B o) B (ps ++ [b]) := by
  obtain ⟨es, clock, hB, he⟩ := h
  have hm := Try.underlying151
  have hc := checkKeyNS w false b
  rcases findKeyS w b es.toList ps he hn with ⟨h1, h2⟩ | ⟨h1, j, h2⟩
  · refine ⟨.map (es.push { key := .pointer (some ⟨b, 0, none⟩), val := .bool true, born := clock }) (clock + 1), ?_, ?_⟩
    · unfold Instr.mapUpdate
      simp [run_underlying hm, Go.MapKept.run_getObj_map hB, Go.MapKept.run_setObj_map _ hB, hc, h2]
      rfl
    · exact ⟨_, _, World.putObj_heap_same (Array.getElem?_eq_some_iff.1 hB).1, by simp [he]⟩
  · exact absurd h1 hb
end Go.Proofs.Ytnpiepimajippaa
namespace Go.Proofs.Ytnpiepimajippaa
open Go.RowKit Pm
attribute [local go_sem] Oper.semAt_some
def Pm.blkOfS : Tr ByteArray → Nat
  | .nil => 0
  | .node b _ _ _ _ => b
theorem nodesL_nodeS : ∀ (t : Tr ByteArray) (x : Tr ByteArray), x ∈ nodesLS t → ∃ b l k v r, x = .node b l k v r ∧ b ∈ blocks t
  | .nil, x, h => by simp [nodesLS] at h
  | .node b l k v r, x, h => by
    simp only [nodesLS, List.mem_append, List.mem_singleton] at h
    rcases h with (h | h) | h
    · obtain ⟨b', l', k', v', r', e, hb⟩ := nodesL_nodeS l x h
      exact ⟨b', l', k', v', r', e, by simp [blocks, hb]⟩
    · obtain ⟨b', l', k', v', r', e, hb⟩ := nodesL_nodeS r x h
      exact ⟨b', l', k', v', r', e, by simp [blocks, hb]⟩
    · exact ⟨b, l, k, v, r, h, by simp [blocks]⟩
theorem nodesL_permS : ∀ (t : Tr ByteArray), ((nodesLS t).map blkOfS).Perm (blocks t)
  | .nil => .nil
  | .node b l k v r => by
    simp only [nodesLS, blocks, List.map_append, List.map_cons, List.map_nil]
    have h1 := nodesL_permS l
    have h2 := nodesL_permS r
    have h3 : ((nodesLS r).map blkOfS ++ [b]).Perm (b :: blocks r) := (List.perm_append_comm (l₁ := (nodesLS r).map blkOfS) (l₂ := [b])).trans (h2.cons b)
    rw [List.append_assoc]
    exact h1.append h3
end Go.Proofs.Ytnpiepimajippaa
namespace Go.Proofs.Ytnpiepimajippaa
open Go.RowKit Pm
def prtVS (p : ByteArray × Bool) : Value := .agg #[.string p.1, .bool p.2]
def keepFS (p q r : ByteArray × Bool) : ByteArray × Bool := if q.2 && r.2 then (q.1, true) else if q.2 && !p.2 then (q.1, true) else if r.2 && !q.2 && !p.2 then (r.1, true) else ((⟨#[]⟩ : ByteArray), false)
def prtTS (t : Tr ByteArray) (k : ByteArray) : ByteArray × Bool := (valOr (seek k t), isNS (seek k t))
theorem prtT_lkS {t : Tr ByteArray} {k : ByteArray} (hs : Srt (items t)) : prtTS t k = lk (⟨#[]⟩ : ByteArray) (items t) k := by
  unfold prtTS
  cases e : seek k t with
  | nil => rw [lk_none (seek_none hs e)]; rfl
  | node b l k0 v0 r =>
    obtain ⟨rfl, h⟩ := seek_some e
    rw [lk_mem hs h]; rfl
set_option maxRecDepth 100000 in
set_option maxHeartbeats 2000000 in
theorem wk_KeepS (key : ByteArray) (p q r : ByteArray × Bool) (w : World) :
    Calls Try.prog 127 #[.string key, prtVS p, prtVS q, prtVS r] w fun e w' => e = .returned (.tuple #[.string (keepFS p q r).1, .bool (keepFS p q r).2]) ∧ Below w.heap.size w w' := by
  obtain ⟨p1, p2⟩ := p
  obtain ⟨q1, q2⟩ := q
  obtain ⟨r1, r2⟩ := r
  unfold prtVS
  have hb : Below w.heap.size w (((w.alloc (.cells #[.string p1, .bool p2] 148)).alloc (.cells #[.string q1, .bool q2] 148)).alloc (.cells #[.string r1, .bool r2] 148)) := (((Below.refl _ w).alloc (Nat.le_refl _) _).alloc (by simp) _).alloc (by simp; omega) _
  have HB := Lib.hid hb
  clear hb
  cases p2 <;> cases q2 <;> cases r2
  all_goals
    go_enter Try.func127, Try.ntmps127
    go_wp2_with fail
    go_ret2
    exact ⟨by simp [keepFS], HB.out⟩
end Go.Proofs.Ytnpiepimajippaa
