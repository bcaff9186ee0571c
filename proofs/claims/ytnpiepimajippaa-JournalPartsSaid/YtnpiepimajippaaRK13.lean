/- Words, contracts and walks that the proof stands on (PuA14 RqB14 JoD JoE RelO JoF). -/
import Derived.Laws.Cover1
import Derived.Test.YtnpiepimajippaaRK11
import Derived.Test.YtnpiepimajippaaRK12
import Derived.Test.YtnpiepimajippaaRK3
namespace Go.Proofs.Ytnpiepimajippaa
open Go.RowKit St Pm
def putOK14 (tr : Tr ByteArray) (s : Sv) (x : ByteArray) : Bool := s.ok && (decide (x.size ≤ 256) && ((items tr).all goodP && aheadK tr (keyB s.st)))
set_option maxRecDepth 100000 in
set_option maxHeartbeats 2000000 in
theorem put_14 (tr : Tr ByteArray) (s : Sv) (x : ByteArray) (w : World) (h : AtS w tr) (hz : sz tr ≤ 100000) (hk : ∀ p ∈ items tr, p.1.size ≤ 9223372036854775807) (hs : s.l.size ≤ 9223372036854775807) :
   Calls Try.prog 30 #[.agg #[.pointer (pa tr)], .agg #[.int .i64 s.g, .int .i64 s.r, .string s.l, .int .i64 s.n, .int .i64 s.i], .string x] w fun e w' =>
     Below w.heap.size w w' ∧ ∃ (m : Tr ByteArray) (c : Int), e = .returned (.tuple #[.agg #[.pointer (pa m)], .int .i64 c]) ∧ AtS w' m ∧
       ((putOK14 tr s x = true ∧ c = 0 ∧ PutR w.heap.size (keyB s.st) x tr m) ∨ (putOK14 tr s x = false ∧ c = 2 ∧ m = .nil)) := by
 have HH := Lib.hid h
 have MM := Lib.hid (fun W (hW : Below w.heap.size w W) => may_14 tr W (h.below hW rfl) hz hk)
 have ML := Lib.hid (fun W (hW : Below w.heap.size w W) => pm_MLastS tr W (h.below hW rfl))
 have MK := Lib.hid (fun W => stp_Key s W hs)
 have MP := Lib.hid (fun W (hW : Below w.heap.size w W) => pm_MPutS tr (keyB s.st) x w.heap.size W hW.size (h.below hW rfl) (by omega))
 obtain ⟨q, hq⟩ : ∃ q, keyOr (endR tr) = q := ⟨_, rfl⟩
 obtain ⟨qv, hqv⟩ : ∃ q, valOr (endR tr) = q := ⟨_, rfl⟩
 obtain ⟨b2, hb2⟩ : ∃ q, isNS (endR tr) = q := ⟨_, rfl⟩
 obtain ⟨g, hg⟩ : ∃ q, (items tr).all goodP = q := ⟨_, rfl⟩
 obtain ⟨k, hkk⟩ : ∃ q, keyB s.st = q := ⟨_, rfl⟩
 obtain ⟨ok, hok⟩ : ∃ q, s.ok = q := ⟨_, rfl⟩
 obtain ⟨fx, hfx⟩ : ∃ q, decide (x.size ≤ 256) = q := ⟨_, rfl⟩
 have MF := Lib.hid (fun W => fits14 x W)
 have PO : Hid (putOK14 tr s x = (ok && (fx && (g && (!b2 || klt q k))))) := Lib.hid (by unfold putOK14 aheadK; rw [hok, hfx, hg, hkk, hb2, hq])
 have HK := Lib.hid hkk
 rw [hq, hqv, hb2] at ML
 rw [hg] at MM
 rw [hkk, hok] at MK
 rw [hkk] at MP ⊢
 rw [hfx] at MF
 have DONE : Hid (∀ (e : Ending) (w' : World) (m : Tr ByteArray), putOK14 tr s x = true → Below w.heap.size w w' → AtS w' m → PutR w.heap.size k x tr m → e = .returned (.tuple #[.agg #[.pointer (pa m)], .int .i64 0]) → Below w.heap.size w w' ∧ ∃ (m : Tr ByteArray) (c : Int), e = .returned (.tuple #[.agg #[.pointer (pa m)], .int .i64 c]) ∧ AtS w' m ∧
       ((putOK14 tr s x = true ∧ c = 0 ∧ PutR w.heap.size k x tr m) ∨ (putOK14 tr s x = false ∧ c = 2 ∧ m = .nil))) := Lib.hid (fun e w' m h1 h2 h3 h4 h5 => ⟨h2, m, 0, h5, h3, .inl ⟨h1, rfl, h4⟩⟩)
 have FAIL : Hid (∀ (e : Ending) (w' : World), putOK14 tr s x = false → Below w.heap.size w w' → e = .returned (.tuple #[.agg #[.pointer none], .int .i64 2]) → Below w.heap.size w w' ∧ ∃ (m : Tr ByteArray) (c : Int), e = .returned (.tuple #[.agg #[.pointer (pa m)], .int .i64 c]) ∧ AtS w' m ∧
       ((putOK14 tr s x = true ∧ c = 0 ∧ PutR w.heap.size k x tr m) ∨ (putOK14 tr s x = false ∧ c = 2 ∧ m = .nil))) := Lib.hid (fun e w' h1 h2 h5 => ⟨h2, .nil, 2, h5, trivial, .inr ⟨h1, rfl, rfl⟩⟩)
 generalize putOK14 tr s x = po at *
 obtain ⟨ans, hans⟩ : ∃ A : Ending → World → Prop, A = fun e w' => Below w.heap.size w w' ∧ ∃ (m : Tr ByteArray) (c : Int), e = .returned (.tuple #[.agg #[.pointer (pa m)], .int .i64 c]) ∧ AtS w' m ∧
       ((po = true ∧ c = 0 ∧ PutR w.heap.size k x tr m) ∨ (po = false ∧ c = 2 ∧ m = .nil)) := ⟨_, rfl⟩
 rw [← hans]
 have DONE : Hid (∀ (e : Ending) (w' : World) (m : Tr ByteArray), po = true → Below w.heap.size w w' → AtS w' m → PutR w.heap.size k x tr m → e = .returned (.tuple #[.agg #[.pointer (pa m)], .int .i64 0]) → ans e w') := Lib.hid (by rw [hans]; exact DONE.out)
 have FAIL : Hid (∀ (e : Ending) (w' : World), po = false → Below w.heap.size w w' → e = .returned (.tuple #[.agg #[.pointer none], .int .i64 2]) → ans e w') := Lib.hid (by rw [hans]; exact FAIL.out)
 clear h hk hq hqv hb2 hg hkk hok hfx hs hans
 have HC : Hid (Chain [w] w) := Lib.hid (Chain.one w)
 go_enter Try.func30, Try.ntmps30
 go_upto_region 1 with (fail)
 obtain ⟨z, hz⟩ : ∃ c, w.heap.size = c := ⟨_, rfl⟩
 try rw [hz]
 obtain ⟨w3, hw3⟩ : ∃ X, allocs w [.cells #[.pointer (pa tr)] 27, .cells #[.int .i64 s.g, .int .i64 s.r, .string s.l, .int .i64 s.n, .int .i64 s.i] 41, .cells #[.pointer none] 27] = X := ⟨_, rfl⟩
 rw [show ((w.alloc (.cells #[.pointer (pa tr)] 27)).alloc (.cells #[.int .i64 s.g, .int .i64 s.r, .string s.l, .int .i64 s.n, .int .i64 s.i] 41)).alloc (.cells #[.pointer none] 27) = w3 from hw3]
 have hb : Below w.heap.size w w3 := by rw [← hw3]; exact allocs_below _ _
 have HM : Hid (w3.heap[z]? = some (.cells #[.pointer (pa tr)] 27 (0, 0))) := Lib.hid (by have := allocs_get [.cells #[.pointer (pa tr)] 27, .cells #[.int .i64 s.g, .int .i64 s.r, .string s.l, .int .i64 s.n, .int .i64 s.i] 41, .cells #[.pointer none] 27] w 0 _ rfl; rw [hw3, hz] at this; exact this)
 have HS : Hid (w3.heap[z + 1]? = some (.cells #[.int .i64 s.g, .int .i64 s.r, .string s.l, .int .i64 s.n, .int .i64 s.i] 41 (0, 0))) := Lib.hid (by have := allocs_get [.cells #[.pointer (pa tr)] 27, .cells #[.int .i64 s.g, .int .i64 s.r, .string s.l, .int .i64 s.n, .int .i64 s.i] 41, .cells #[.pointer none] 27] w 1 _ rfl; rw [hw3, hz] at this; exact this)
 have HR : Hid (w3.heap[z + 1 + 1]? = some (.cells #[.pointer none] 27 (0, 0))) := Lib.hid (by have := allocs_get [.cells #[.pointer (pa tr)] 27, .cells #[.int .i64 s.g, .int .i64 s.r, .string s.l, .int .i64 s.n, .int .i64 s.i] 41, .cells #[.pointer none] 27] w 2 _ rfl; rw [hw3, hz] at this; exact this)
 have Sz : Hid (w.heap.size = z) := Lib.hid hz
 replace HC := Lib.hid (HC.out.push hb)
 clear hb hw3 hz
 have kS0 := cell_of_row _ _ 0 _ _ _ HS.out
 have kS1 := cell_of_row _ _ 1 _ _ _ HS.out
 have kS2 := cell_of_row _ _ 2 _ _ _ HS.out
 have kS3 := cell_of_row _ _ 3 _ _ _ HS.out
 have kS4 := cell_of_row _ _ 4 _ _ _ HS.out
 go_wp2_with fail
 cases ok
 case false =>
   refine (MK.out _).mono ?_
   rintro e w4 ⟨rfl, hb⟩
   clear kS0 kS1 kS2 kS3 kS4
   replace HC := Lib.hid (HC.out.push hb)
   clear hb
   rw [if_neg (by simp)]
   have kM0 := cell_of_one (boxStays HM.out (HC.out.to w3 (by simp)))
   go_wp2_with fail
   refine (ML.out _ (HC.out.to w (by simp))).mono ?_
   rintro e w5 ⟨rfl, hb⟩
   clear kM0
   replace HC := Lib.hid (HC.out.push hb)
   clear hb
   have po1 : Hid (po = false) := Lib.hid (by rw [PO.out]; first | rfl | (simp; done) | (simp [*]))
   have kR0 := cell_of_one (boxStays HR.out (HC.out.to w3 (by simp)))
   have fR0 := frozen_of_row _ (z + 1 + 1) 0 _ _ (boxStays HR.out (HC.out.to w3 (by simp)))
   have c4 : ∀ u, (w5.setCell ⟨z + 1 + 1, 0, none⟩ u).cell? ⟨z + 1 + 1, 0, none⟩ = some u := fun u => cell_of_one (Boxed.set (t := 27) u (boxStays HR.out (HC.out.to w3 (by simp))))
   have BZ := Lib.hid (Below.setCell (p := ⟨z + 1 + 1, 0, none⟩) (show Below z w w5 from by rw [← Sz.out]; exact HC.out.to w (by simp)) (by simp; omega) (.pointer none))
   go_wp2_with fail
   exact bodyPost_ret (v := .tuple #[.agg #[.pointer none], .int .i64 2]) (by simp [results, Try.results30, go_sem, c4]) rfl (FAIL.out _ _ po1.out (by rw [Sz.out]; exact BZ.out) rfl)
 case true =>
   refine (MK.out _).mono ?_
   rintro e w4 ⟨rfl, hb⟩
   clear kS0 kS1 kS2 kS3 kS4
   replace HC := Lib.hid (HC.out.push hb)
   clear hb
   rw [if_pos rfl]
   have kM0 := cell_of_one (boxStays HM.out (HC.out.to w3 (by simp)))
   go_wp2_with fail
   refine (ML.out _ (HC.out.to w (by simp))).mono ?_
   rintro e w5 ⟨rfl, hb⟩
   clear kM0
   replace HC := Lib.hid (HC.out.push hb)
   clear hb
   go_wp2_with fail
   refine (MF.out _).mono ?_
   rintro e w6 ⟨rfl, rfl⟩
   cases fx
   case false =>
     have po1 : Hid (po = false) := Lib.hid (by rw [PO.out]; first | rfl | (simp; done) | (simp [*]))
     have kR0 := cell_of_one (boxStays HR.out (HC.out.to w3 (by simp)))
     have fR0 := frozen_of_row _ (z + 1 + 1) 0 _ _ (boxStays HR.out (HC.out.to w3 (by simp)))
     have c4 : ∀ u, (w5.setCell ⟨z + 1 + 1, 0, none⟩ u).cell? ⟨z + 1 + 1, 0, none⟩ = some u := fun u => cell_of_one (Boxed.set (t := 27) u (boxStays HR.out (HC.out.to w3 (by simp))))
     have BZ := Lib.hid (Below.setCell (p := ⟨z + 1 + 1, 0, none⟩) (show Below z w w5 from by rw [← Sz.out]; exact HC.out.to w (by simp)) (by simp; omega) (.pointer none))
     go_wp2_with fail
     exact bodyPost_ret (v := .tuple #[.agg #[.pointer none], .int .i64 2]) (by simp [results, Try.results30, go_sem, c4]) rfl (FAIL.out _ _ po1.out (by rw [Sz.out]; exact BZ.out) rfl)
   case true =>
     have kM0 := cell_of_one (boxStays HM.out (HC.out.to w3 (by simp)))
     go_wp2_with fail
     refine (MM.out _ (HC.out.to w (by simp))).mono ?_
     rintro e w6 ⟨rfl, hb⟩
     clear kM0
     replace HC := Lib.hid (HC.out.push hb)
     clear hb
     cases g
     case false =>
       have po1 : Hid (po = false) := Lib.hid (by rw [PO.out]; first | rfl | (simp; done) | (simp [*]))
       have kR0 := cell_of_one (boxStays HR.out (HC.out.to w3 (by simp)))
       have fR0 := frozen_of_row _ (z + 1 + 1) 0 _ _ (boxStays HR.out (HC.out.to w3 (by simp)))
       have c4 : ∀ u, (w6.setCell ⟨z + 1 + 1, 0, none⟩ u).cell? ⟨z + 1 + 1, 0, none⟩ = some u := fun u => cell_of_one (Boxed.set (t := 27) u (boxStays HR.out (HC.out.to w3 (by simp))))
       have BZ := Lib.hid (Below.setCell (p := ⟨z + 1 + 1, 0, none⟩) (show Below z w w6 from by rw [← Sz.out]; exact HC.out.to w (by simp)) (by simp; omega) (.pointer none))
       go_wp2_with fail
       exact bodyPost_ret (v := .tuple #[.agg #[.pointer none], .int .i64 2]) (by simp [results, Try.results30, go_sem, c4]) rfl (FAIL.out _ _ po1.out (by rw [Sz.out]; exact BZ.out) rfl)
     case true =>
       cases b2
       case false =>
         have po1 : Hid (po = true) := Lib.hid (by rw [PO.out]; first | rfl | (simp; done) | (simp [*]))
         have kM0 := cell_of_one (boxStays HM.out (HC.out.to w3 (by simp)))
         go_wp2_with fail
         refine (MP.out _ (HC.out.to w (by simp))).mono ?_
         rintro e w8 ⟨m, hP, rfl, hm, hb⟩
         clear kM0
         replace HC := Lib.hid (HC.out.push hb)
         clear hb
         have HP := Lib.hid hP
         have HM := Lib.hid hm
         clear hP hm
         have kR0 := cell_of_one (boxStays HR.out (HC.out.to w3 (by simp)))
         have fR0 := frozen_of_row _ (z + 1 + 1) 0 _ _ (boxStays HR.out (HC.out.to w3 (by simp)))
         have c4 : ∀ u, (w8.setCell ⟨z + 1 + 1, 0, none⟩ u).cell? ⟨z + 1 + 1, 0, none⟩ = some u := fun u => cell_of_one (Boxed.set (t := 27) u (boxStays HR.out (HC.out.to w3 (by simp))))
         have BZ := Lib.hid (Below.setCell (p := ⟨z + 1 + 1, 0, none⟩) (show Below z w w8 from by rw [← Sz.out]; exact HC.out.to w (by simp)) (by simp; omega) (.pointer (pa m)))
         have AZ := Lib.hid (HM.out.setBox (boxStays HR.out (HC.out.to w3 (by simp))) (by decide) 0 (.pointer (pa m)))
         go_wp2_with fail
         exact bodyPost_ret (v := .tuple #[.agg #[.pointer (pa m)], .int .i64 0]) (by simp [results, Try.results30, go_sem, c4]) rfl (DONE.out _ _ m po1.out (by rw [Sz.out]; exact BZ.out) AZ.out HP.out rfl)
       case true =>
         cases hqk : klt q k
         case false =>
           have hbl : Op.bytesLess q.toList k.toList = false := hqk
           have po1 : Hid (po = false) := Lib.hid (by rw [PO.out]; first | rfl | (simp; done) | (simp [*]))
           have kR0 := cell_of_one (boxStays HR.out (HC.out.to w3 (by simp)))
           have fR0 := frozen_of_row _ (z + 1 + 1) 0 _ _ (boxStays HR.out (HC.out.to w3 (by simp)))
           have c4 : ∀ u, (w6.setCell ⟨z + 1 + 1, 0, none⟩ u).cell? ⟨z + 1 + 1, 0, none⟩ = some u := fun u => cell_of_one (Boxed.set (t := 27) u (boxStays HR.out (HC.out.to w3 (by simp))))
           have BZ := Lib.hid (Below.setCell (p := ⟨z + 1 + 1, 0, none⟩) (show Below z w w6 from by rw [← Sz.out]; exact HC.out.to w (by simp)) (by simp; omega) (.pointer none))
           go_wp2_with fail
           exact bodyPost_ret (v := .tuple #[.agg #[.pointer none], .int .i64 2]) (by simp [results, Try.results30, go_sem, c4]) rfl (FAIL.out _ _ po1.out (by rw [Sz.out]; exact BZ.out) rfl)
         case true =>
           have hbl : Op.bytesLess q.toList k.toList = true := hqk
           have po1 : Hid (po = true) := Lib.hid (by rw [PO.out]; first | rfl | (simp; done) | (simp [*]))
           have kM0 := cell_of_one (boxStays HM.out (HC.out.to w3 (by simp)))
           go_wp2_with fail
           refine (MP.out _ (HC.out.to w (by simp))).mono ?_
           rintro e w8 ⟨m, hP, rfl, hm, hb⟩
           clear kM0
           replace HC := Lib.hid (HC.out.push hb)
           clear hb
           have HP := Lib.hid hP
           have HM := Lib.hid hm
           clear hP hm
           have kR0 := cell_of_one (boxStays HR.out (HC.out.to w3 (by simp)))
           have fR0 := frozen_of_row _ (z + 1 + 1) 0 _ _ (boxStays HR.out (HC.out.to w3 (by simp)))
           have c4 : ∀ u, (w8.setCell ⟨z + 1 + 1, 0, none⟩ u).cell? ⟨z + 1 + 1, 0, none⟩ = some u := fun u => cell_of_one (Boxed.set (t := 27) u (boxStays HR.out (HC.out.to w3 (by simp))))
           have BZ := Lib.hid (Below.setCell (p := ⟨z + 1 + 1, 0, none⟩) (show Below z w w8 from by rw [← Sz.out]; exact HC.out.to w (by simp)) (by simp; omega) (.pointer (pa m)))
           have AZ := Lib.hid (HM.out.setBox (boxStays HR.out (HC.out.to w3 (by simp))) (by decide) 0 (.pointer (pa m)))
           go_wp2_with fail
           exact bodyPost_ret (v := .tuple #[.agg #[.pointer (pa m)], .int .i64 0]) (by simp [results, Try.results30, go_sem, c4]) rfl (DONE.out _ _ m po1.out (by rw [Sz.out]; exact BZ.out) AZ.out HP.out rfl)
end Go.Proofs.Ytnpiepimajippaa
namespace Go.Proofs.Ytnpiepimajippaa
open Go.RowKit St Pm
theorem cells_row {W : World} {b : Nat} {cs : List Value} {t : TypeId} {fr : Nat × Nat} (h : W.heap[b]? = some (.cells cs.toArray t fr)) : CellsAt W (some ⟨b, 0, none⟩) cs := by
 intro i hi
 refine ⟨b, 0, rfl, ?_⟩
 rw [Nat.zero_add, cell_of_row _ _ i _ _ _ h]
 simp
theorem of_reg14 (l : List Ev) (a : Option Addr) (n c : Nat) (w : World) (hl : CellsAt w a (elsV l)) (hn : n = l.length) (hb : n ≤ 100000) (hsz : ∀ e ∈ l, e.1.l.size ≤ 9223372036854775807) :
   Calls Try.prog 25 #[.slice a n c] w fun e w' => ∃ (t : Tr ByteArray) (c : Int), e = .returned (.tuple #[.agg #[.pointer (pa t)], .int .i64 c]) ∧ AtS w' t ∧ Below w.heap.size w w' ∧ (∀ b ∈ blocks t, w.heap.size ≤ b) ∧
     ((mayV l = true ∧ c = 0 ∧ Reg (sortV l) t) ∨ (mayV l = false ∧ c = 2 ∧ t = .nil)) := by
 refine (of14 l a n c w hl hn hb hsz).mono ?_
 intro e w' ho
 unfold OfOut14 at ho
 cases hm : mayV l with
 | true =>
   rw [hm, if_pos rfl] at ho
   obtain ⟨t, h1, h2, h3, h4, h5, _, h7⟩ := ho
   exact ⟨t, 0, h1, h2, h7, h5, .inl ⟨rfl, rfl, reg_put hm h3 h4⟩⟩
 | false =>
   rw [hm, if_neg (by simp)] at ho
   exact ⟨.nil, 2, ho.1, trivial, ho.2, fun b hb => (by cases hb), .inr ⟨rfl, rfl, rfl⟩⟩
theorem els_reg14 {l : List Ev} {t : Tr ByteArray} (w : World) (h : AtS w t) (hr : Reg l t) (hz : l.length ≤ 100000) :
   Calls Try.prog 75 #[.agg #[.pointer (pa t)]] w fun e w' => ∃ v, e = .returned (.tuple #[v, .int .i64 0]) ∧ Below w.heap.size w w' ∧ w'.ownsRow w.heap.size 47 6 v l.length (elsV l) := by
 refine (elements_14 t w h (by rw [hr.len]; exact hz) hr.keys).mono ?_
 rintro e w' ⟨v, c, rfl, hb, h1, _⟩
 obtain ⟨rfl, h2⟩ := h1 hr.good
 rw [hr.dec, sz_items, hr.len] at h2
 exact ⟨v, rfl, hb, h2⟩
theorem txt_reg14 {l : List Ev} {t : Tr ByteArray} (w : World) (h : AtS w t) (hr : Reg l t) (hz : l.length ≤ 100000) :
   Calls Try.prog 79 #[.agg #[.pointer (pa t)]] w fun e w' => ∃ v, e = .returned (.tuple #[v, .int .i64 0]) ∧ Below w.heap.size w w' ∧ w'.ownsRow w.heap.size 9 1 v l.length (txV (l.map (·.2))) := by
 refine (texts_14 t w h (by rw [hr.len]; exact hz) hr.keys).mono ?_
 rintro e w' ⟨v, c, rfl, hb, h1, _⟩
 obtain ⟨rfl, h2⟩ := h1 hr.good
 rw [hr.texts, sz_items, hr.len] at h2
 exact ⟨v, rfl, hb, h2⟩
theorem put_reg14 {l : List Ev} {t : Tr ByteArray} (s : Sv) (x : ByteArray) (w : World) (h : AtS w t) (hr : Reg l t) (hz : l.length ≤ 100000) (hs : s.l.size ≤ 9223372036854775807) :
   Calls Try.prog 30 #[.agg #[.pointer (pa t)], .agg #[.int .i64 s.g, .int .i64 s.r, .string s.l, .int .i64 s.n, .int .i64 s.i], .string x] w fun e w' =>
     ∃ (m : Tr ByteArray) (c : Int), e = .returned (.tuple #[.agg #[.pointer (pa m)], .int .i64 c]) ∧ AtS w' m ∧ Below w.heap.size w w' ∧ (((okV (s, x) && behindV l s) = true ∧ c = 0 ∧ Reg (l ++ [(s, x)]) m ∧ ∀ b ∈ blocks m, w.heap.size ≤ b ∨ b ∈ blocks t) ∨ ((okV (s, x) && behindV l s) = false ∧ c = 2 ∧ m = .nil)) := by
 refine (put_14 t s x w h (by rw [hr.len]; exact hz) hr.keys hs).mono ?_
 rintro e w' ⟨hb, m, c, rfl, hm, hP⟩
 have e1 : putOK14 t s x = (okV (s, x) && behindV l s) := by
   unfold putOK14 okV
   rw [hr.good]
   cases hs : s.ok with
   | false => rfl
   | true =>
     rw [hr.ahead hs]
     cases behindV l s <;> simp
 rw [e1] at hP
 refine ⟨m, c, rfl, hm, hb, ?_⟩
 rcases hP with ⟨h1, h2, h3⟩ | h1
 · have h5 := h1
   rw [Bool.and_eq_true] at h5
   obtain ⟨h6, h7⟩ := okV_iff.1 h5.1
   exact .inl ⟨h1, h2, reg_snoc hr h6 h7 h5.2 (h3.bal hr.bal).1 (h3.items hr.srt), put_blocks h3⟩
 · exact .inr h1
end Go.Proofs.Ytnpiepimajippaa
namespace Go.Proofs.Ytnpiepimajippaa
open Go.RowKit St Pm
theorem goes_since (tr : Tr ByteArray) (s : Sv) (sb mb : Nat) (L : List Ev) (a : Option Addr) (n c : Nat) (leave : Int) (w : World) (hs : w.heap[sb]? = some (.cells #[.int .i64 s.g, .int .i64 s.r, .string s.l, .int .i64 s.n, .int .i64 s.i] 41 (0, 0))) (hm : Boxed w mb 27 (.pointer (pa tr))) (h : AtS w tr) (hz : sz tr ≤ 100000) (hk : ∀ p ∈ items tr, p.1.size ≤ 9223372036854775807) (hl : s.l.size ≤ 9223372036854775807)
   (hL : sinceT tr s = L) (hc : CellsAt w a (elsV L)) (hn : n = L.length) (hb : n ≤ 1000000) :
   Calls Try.prog 82 #[.func (.func 115) #[] #[.pointer (some ⟨sb, 0, none⟩), .pointer (some ⟨mb, 0, none⟩)], .slice a n c, .int .i64 leave] w fun e w' => e = .returned (.bool true) ∧ Below w.heap.size w w' := by
 subst hL
 have hS : ∀ k, (k = sb ∨ k ∈ blocks tr) → k < w.heap.size := fun k hk => by
   rcases hk with rfl | hk
   · exact (Array.getElem?_eq_some_iff.1 hs).1
   · exact h.lt k hk
 refine goes_14 115 #[.pointer (some ⟨sb, 0, none⟩), .pointer (some ⟨mb, 0, none⟩)] (fun k => k = sb ∨ k ∈ blocks tr) (sinceT tr s) a n c leave w hc hn hb hS (enters_of Try.func115 (by kernel_rfl) rfl) (fun W hW => ?_)
 exact since1_14 5 (by omega) tr s sb mb W _ (boxStays hs hW) (boxStays hm hW) (h.below hW rfl) hz hk hl (fun k hk => Nat.lt_of_lt_of_le (hS k hk) hW.size) (.inl rfl) (fun k hk => .inr hk)
end Go.Proofs.Ytnpiepimajippaa
namespace Go.Proofs.Ytnpiepimajippaa
open Go.RowKit St Pm
theorem okP_mem {b : Tr ByteArray} (hs : Srt (items b)) (p : ByteArray × ByteArray) : okP b p = true ↔ p ∈ items b := by
 obtain ⟨k, v⟩ := p
 unfold okP
 cases h : seek k b with
 | nil =>
   have h1 := (seek_nil_iff hs).1 h
   simp only [h]
   exact ⟨fun e => (by cases e), fun hm => absurd ⟨_, hm, rfl⟩ h1⟩
 | node c l k0 v0 r =>
   obtain ⟨rfl, hm⟩ := seek_some h
   simp only [h]
   show (true && decide (v0 = v)) = true ↔ _
   rw [Bool.true_and, decide_eq_true_eq]
   constructor
   · rintro rfl; exact hm
   · intro hm2
     obtain ⟨c', l', r', h2⟩ := seek_val hs hm2
     rw [h] at h2
     cases h2
     rfl
theorem enc_mem {la : List Ev} {x : Ev} (ha : ∀ y ∈ la, okV y = true) (hx : okV x = true) : encV x ∈ la.map encV ↔ x ∈ la := by
 constructor
 · intro h
   obtain ⟨y, hy, e⟩ := List.mem_map.1 h
   have h1 := (good_enc (ha y hy)).2
   have h2 := (good_enc hx).2
   rw [e, h2] at h1
   rw [h1]; exact hy
 · exact fun h => List.mem_map.2 ⟨x, h, rfl⟩
def hasEv (l : List Ev) (x : Ev) : Bool := l.any (fun y => decide (y = x))
def partV (la lb : List Ev) : Bool := la.all (hasEv lb)
theorem hasEv_iff {l : List Ev} {x : Ev} : hasEv l x = true ↔ x ∈ l := by
 unfold hasEv
 rw [List.any_eq_true]
 constructor
 · rintro ⟨y, hy, e⟩
   obtain rfl := of_decide_eq_true e
   exact hy
 · exact fun h => ⟨x, h, decide_eq_true rfl⟩
theorem part_reg {la lb : List Ev} {a b : Tr ByteArray} (ha : Reg la a) (hb : Reg lb b) : partT a b = partV la lb := by
 unfold partT partV
 rw [ha.good, hb.good, Bool.true_and, Bool.true_and, ha.it, List.all_map]
 rw [Bool.eq_iff_iff, List.all_eq_true, List.all_eq_true]
 refine forall_congr' fun x => forall_congr' fun hx => ?_
 show okP b (encV x) = true ↔ _
 rw [okP_mem hb.srt, hb.it, hasEv_iff]
 exact enc_mem hb.ok (ha.ok x hx)
theorem klt_enc {x : Ev} {s : Sv} (hx : okV x = true) (hs : s.ok = true) : klt (encV x).1 (keyB s.st) = behindV [x] s := by
 show klt (keyB x.1.st) (keyB s.st) = _
 rw [keyB_klt (Sv.ok_st (okV_iff.1 hx).1).1 (Sv.ok_st hs).1, ← svC_lt (okV_iff.1 hx).1 hs]
 rfl
def sinceL (l : List Ev) (s : Sv) : List Ev := if s = zeroS then l else if s.ok = true then l.filter (fun x => !behindV [x] s && decide (x.1 ≠ s)) else []
theorem zeroS_no : zeroS.ok = false := by
 cases h : zeroS.ok with
 | false => rfl
 | true => have := (Sv.ok_iff.1 h).1; exact absurd this (by decide)
theorem since_reg {l : List Ev} {t : Tr ByteArray} (h : Reg l t) (s : Sv) : sinceT t s = sinceL l s := by
 unfold sinceT sinceL
 rw [h.good]
 by_cases hz : s = zeroS
 · subst hz
   rw [if_pos ⟨.inl rfl, rfl⟩, if_pos rfl]
   unfold sinceK
   rw [zeroS_no, if_neg (by simp), fromL_all, h.dec]
   refine List.filter_eq_self.2 fun x hx => ?_
   rw [decide_eq_true]
   intro e
   have := (okV_iff.1 (h.ok x hx)).1
   rw [e, zeroS_no] at this
   cases this
 · rw [if_neg hz]
   cases hs : s.ok with
   | false => rw [if_neg (by rintro ⟨h1 | h1, _⟩; exact hz h1; cases h1), if_neg (by simp)]
   | true =>
     rw [if_pos ⟨.inr rfl, rfl⟩, if_pos rfl]
     unfold sinceK
     rw [hs, if_pos rfl, fromL_filter _ _ h.srt, h.it, List.filter_map, List.filter_map, List.filter_map, List.map_map]
     have e1 : ∀ x ∈ l, decV (encV x) = x := fun x hx => (good_enc (h.ok x hx)).2
     have e2 : ∀ (q : List Ev), (∀ x ∈ q, x ∈ l) → q.map (decV ∘ encV) = q := fun q hq => by
       conv => rhs; rw [← List.map_id q]
       exact List.map_congr_left fun x hx => e1 x (hq x hx)
     rw [List.filter_filter, e2 _ (fun x hx => (List.mem_filter.1 hx).1)]
     refine List.filter_congr fun x hx => ?_
     show (decide ((decV (encV x)).1 ≠ s) && !klt (encV x).1 (keyB s.st)) = _
     rw [e1 x hx, klt_enc (h.ok x hx) hs, Bool.and_comm]
end Go.Proofs.Ytnpiepimajippaa
namespace Go.Proofs.Ytnpiepimajippaa
open Go.RowKit
section
variable {P : Program} {ops : Array Oper} {Q : Exit → Act → World → Prop} {id : Nat} {base : Array Value} {df : List Deferred} {slots : List Nat} {W0 : World}
theorem getD_some {t : Array Value} {k : Nat} {b : Bool} (h : t[k]?.getD undef = .bool b) : t[k]? = some (.bool b) := by
 cases e : t[k]? with
 | none => rw [e] at h; cases h
 | some x => rw [e] at h; exact congrArg some h
theorem ext_val (x : Value) (ix : Nat) : (∃ v, Instr.extract x ix = pure v) ∨ (∃ s, Instr.extract x ix = stuck s) := by
 unfold Instr.extract
 split
 · split
   · exact .inl ⟨_, rfl⟩
   · exact .inr ⟨_, rfl⟩
 · exact .inr ⟨_, rfl⟩
theorem wpOp_ext {i : Nat} {o : Oper} {t : Operand} {ix : Nat} (ho : ops[i]? = some o) (hg : o.guard = none) (hop : o.op = .extract t ix) {K : Act → World → Prop} {a : Act} {w : World} (h : wpOp P ops Q i K a w) :
   ∃ v, K (a.put (dstN ops i) v) w ∧ ∀ (K' : Act → World → Prop) (w2 : World), K' (a.put (dstN ops i) v) w2 → wpOp P ops Q i K' a w2 := by
 have hd : dstN ops i = o.dst := by unfold dstN; rw [ho]; rfl
 rw [hd]
 unfold wpOp at h ⊢
 rw [ho] at h ⊢
 simp only [wanted_none hg, if_true] at h ⊢
 rcases ext_val (a.eval t) ix with ⟨v, hv⟩ | ⟨s, hs⟩
 · have he : execOp a.eval o = pure (.value v) := by
     unfold execOp
     simp [hop, hv]
   refine ⟨v, ?_, fun K' w2 hK' => .inl ?_⟩
   · rcases h with h | ⟨h1, _⟩
     · unfold Oper.wp at h; rw [he] at h; exact h
     · unfold Oper.asks at h1
       rw [he] at h1
       have h2 : noRoomEvent ∈ (#[] : Array _) := h1.1
       cases (Array.not_mem_empty _ h2)
   · unfold Oper.wp; rw [he]; exact hK'
 · exfalso
   have he : execOp a.eval o = (stuck s : Sem Next) := by
     unfold execOp
     simp [hop, hs]
     rfl
   rcases h with h | ⟨h1, _⟩
   · unfold Oper.wp at h; rw [he] at h; exact h
   · unfold Oper.asks at h1
     rw [he] at h1
     have h2 : noRoomEvent ∈ (#[] : Array _) := h1.1
     cases (Array.not_mem_empty _ h2)
def freeB (ops : Array Oper) (i : Nat) : Bool := copyB ops i || match ops[i]? with
 | some o => o.guard.isNone && (match o.op with
   | .extract _ _ => true
   | _ => false)
 | none => false
theorem wpOp_free {i : Nat} (hf : freeB ops i = true) {K : Act → World → Prop} {a : Act} {w : World} (h : wpOp P ops Q i K a w) :
   ∃ v, K (a.put (dstN ops i) v) w ∧ ∀ (K' : Act → World → Prop) (w2 : World), K' (a.put (dstN ops i) v) w2 → wpOp P ops Q i K' a w2 := by
 unfold freeB at hf
 rw [Bool.or_eq_true] at hf
 rcases hf with hf | hf
 · obtain ⟨x, hx⟩ := wpOp_copy (P := P) (Q := Q) hf
   exact ⟨a.eval x, (hx _ _ _).1 h, fun K' w2 hK' => (hx _ _ _).2 hK'⟩
 · cases ho : ops[i]? with
   | none => rw [ho] at hf; cases hf
   | some o =>
     rw [ho] at hf
     simp only [Bool.and_eq_true] at hf
     have hg : o.guard = none := by simpa using hf.1
     have h2 := hf.2
     split at h2
     · rename_i t ix hop
       exact wpOp_ext ho hg hop h
     · cases h2
def blkOf : Value → Nat
 | .pointer (some a) => a.block
 | _ => 0
def ownOK (ops : Array Oper) (s x ix y iy : Nat) : Bool := decide (s < ops.size) && (dstN ops s == none) && (dstN ops ix == some x) && (dstN ops iy == some y) && needsN ops 6 s ix && needsN ops 6 s iy
def freeOK1 (ops : Array Oper) (s : Nat) : Bool := (List.range ops.size).all fun i => i == s || (freeB ops i || needsN ops 6 s i)
theorem setRow_one {w : World} {b : Nat} {u v : Value} {t : TypeId} {fr : Nat × Nat} (h : w.heap[b]? = some (.cells #[u] t fr)) : w.setRow b #[v] = w.setCell ⟨b, 0, none⟩ v := by
 unfold World.setRow World.setCell
 simp only [World.mk.injEq, true_and, and_true]
 apply Array.ext_getElem?
 intro k
 simp only [Array.getElem?_modify]
 by_cases e : b = k
 · subst e
   simp [h]
 · simp [e]
theorem relG_own {gs : List Pr} (s x ix y iy : Nat) (ps psS : List (Nat × Nat × Nat)) (hm : P.follows .mixedOrders = true) (hl : gs.length = ops.size) (hps : finOK ops ps = true) (hpsS : stoDeps ops [s] psS = true)
   (hS : ownOK ops s x ix y iy = true) (hfr : freeOK1 ops s = true)
   (hst : ∀ f w, Below W0.heap.size W0 w → FinF gs f w psS → ∀ K : Act → World → Prop, K { tmps := regT base slots f, defers := df } (w.setRow (blkOf (f x)) (f y).cells) → wpOp P ops Q s K { tmps := regT base slots f, defers := df } w)
   (h : ∀ f w, Below W0.heap.size W0 w → FinF gs f w ps → Q .normal { tmps := regT base slots f, defers := df } (w.setRow (blkOf (f x)) (f y).cells)) : RelG P ops Q id base df slots W0 [s] gs := by
 intro hup hsl hinj hsz hall
 have hpS : s < ops.size ∧ dstN ops s = none ∧ dstN ops ix = some x ∧ dstN ops iy = some y ∧ needsN ops 6 s ix = true ∧ needsN ops 6 s iy = true := by
   simp only [ownOK, Bool.and_eq_true, decide_eq_true_eq, beq_iff_eq] at hS
   exact ⟨hS.1.1.1.1.1, hS.1.1.1.1.2, hS.1.1.1.2, hS.1.1.2, hS.1.2, hS.2⟩
 obtain ⟨p1, p2, p3, p4, p5, p6⟩ := hpS
 have hfinS : ∀ (L : Nat → Bool) f w, ClosedL ops L → (∀ i d, dstN ops i = some d → L i = true → lkG gs i (f d) w) → (∀ k ∈ preOf ops s, L k = true) → FinF gs f w psS := by
   intro L f w hc hL hpre
   clear h hst
   induction psS with
   | nil => trivial
   | cons q psS ih =>
     simp only [stoDeps, List.all_cons, Bool.and_eq_true] at hpsS
     obtain ⟨⟨⟨h1, h2⟩, h4⟩, h3⟩ := hpsS
     have hj' : q.1 + q.2.2 + 1 = ops.size := by simpa using h1
     have h5 := hL q.1 q.2.1 (by simpa using h2) (needsN_out hc _ _ _ h4.1 hpre)
     unfold lkG at h5
     rw [if_pos (by omega), show gs.length - 1 - q.1 = q.2.2 by omega] at h5
     exact ⟨⟨f q.2.1, rfl, h5⟩, ih h3⟩
 refine region_inv (fun L a w => ClosedL ops L ∧ ∃ f w', a = { tmps := regT base slots f, defers := df } ∧ Below W0.heap.size W0 w' ∧ (∀ i d, dstN ops i = some d → L i = true → lkG gs i (f d) w') ∧ w = if L s = true then w'.setRow (blkOf (f x)) (f y).cells else w') hm hup
   ⟨(fun _ h => by cases h), fun k => base.getD k undef, W0.drew, by rw [regT_id], (Below.refl _ _).drew, fun _ _ _ h => (by cases h), by rw [if_neg (by simp)]⟩ ?_ ?_
 · rintro i hi L a w ⟨hc, f, w', rfl, hW, hL, rfl⟩ hLi hpre
   have hc' := closedL_next hc hpre
   by_cases his : i = s
   · subst his
     rw [if_neg (by rw [hLi]; simp)]
     refine hst f w' hW (hfinS L f w' hc hL hpre) _ ⟨hc', f, w', rfl, hW, fun j d e hj => ?_, by rw [if_pos (by simp)]⟩
     have hne : j ≠ i := fun e' => by rw [e', p2] at e; cases e
     exact hL j d e (by simpa [hne] using hj)
   · have hso : [s].contains i = false := by simpa using his
     obtain ⟨h1, h2⟩ := hall i (by omega) hso
     have hLs : (s == i || L s) = L s := by
       have : (s == i) = false := by simpa using fun e => his (Eq.symm e)
       rw [this]; rfl
     have hkeep : ∀ v w'', lkG gs i v w'' → Below w'.heap.size w' w'' → ∃ f1, ({ tmps := regT base slots f, defers := df : Act }.put (dstN ops i) v) = { tmps := regT base slots f1, defers := df } ∧ Below W0.heap.size W0 w'' ∧ (∀ j d, dstN ops j = some d → (j == i || L j) = true → lkG gs j (f1 d) w'') ∧ (L s = true → f1 x = f x ∧ f1 y = f y) := by
       intro v w'' hg hb
       have hW' := hW.trans (hb.mono hW.size)
       cases hdi : dstN ops i with
       | none =>
         refine ⟨f, rfl, hW', fun j d e hj => ?_, fun _ => ⟨rfl, rfl⟩⟩
         have hne : j ≠ i := fun e' => by rw [e', hdi] at e; cases e
         have hLj : L j = true := by simpa [hne] using hj
         have hjs : [s].contains j = false := by
           have : j ≠ s := fun e' => by rw [e', p2] at e; cases e
           simpa using this
         exact (hall j (by have := dstN_lt e; omega) hjs).1 _ _ _ (hL j d e hLj) hb
       | some di =>
         refine ⟨updF f di v, ?_, hW', fun j d e hj => ?_, fun hls => ?_⟩
         · show ({ tmps := (regT base slots f).setIfInBounds di v, defers := df } : Act) = _
           rw [regT_put _ _ _ _ _ (hsl i di hdi)]
         · unfold updF
           by_cases hne : j = i
           · subst hne
             rw [hdi] at e
             cases e
             rw [if_pos rfl]
             exact hg
           · have h3 : d ≠ di := fun e' => hne (hinj j i d e (e' ▸ hdi))
             rw [if_neg h3]
             have hLj : L j = true := by simpa [hne] using hj
             have hjs : [s].contains j = false := by
               have : j ≠ s := fun e' => by rw [e', p2] at e; cases e
               simpa using this
             exact (hall j (by have := dstN_lt e; omega) hjs).1 _ _ _ (hL j d e hLj) hb
         · have hix : L ix = true := needsN_out hc _ _ _ p5 (hc s hls)
           have hiy : L iy = true := needsN_out hc _ _ _ p6 (hc s hls)
           unfold updF
           constructor
           · rw [if_neg]
             intro e
             have := hinj ix i x p3 (e ▸ hdi)
             rw [this, hLi] at hix
             cases hix
           · rw [if_neg]
             intro e
             have := hinj iy i y p4 (e ▸ hdi)
             rw [this, hLi] at hiy
             cases hiy
     cases hls : L s with
     | false =>
       rw [if_neg (by simp)]
       refine h2 f w' hW (fun j hj d e => hL j d e (hpre j hj)) _ fun v w'' hg hb => ?_
       obtain ⟨f1, k2, k3, k4, _⟩ := hkeep v w'' hg hb
       exact ⟨hc', f1, w'', k2, k3, k4, by show w'' = if (s == i || L s) = true then w''.setRow (blkOf (f1 x)) (f1 y).cells else w''; rw [hLs, hls, if_neg (by simp)]⟩
     | true =>
       rw [if_pos rfl]
       have hf := List.all_eq_true.1 hfr i (List.mem_range.2 hi)
       simp only [Bool.or_eq_true] at hf
       have hcp : freeB ops i = true := by
         rcases hf with hf | hf | hf
         · exact absurd (by simpa using hf) his
         · exact hf
         · have := needsN_out hc _ _ _ hf (hc s hls)
           rw [hLi] at this
           cases this
       have h3 := h2 f w' hW (fun j hj d e => hL j d e (hpre j hj)) (fun a1 w1 => ∃ v, a1 = { tmps := regT base slots f, defers := df : Act }.put (dstN ops i) v ∧ lkG gs i v w1 ∧ Below w'.heap.size w' w1) (fun v w'' hg hb => ⟨v, rfl, hg, hb⟩)
       obtain ⟨v0, ⟨v, e1, e2, e3⟩, hgo⟩ := wpOp_free hcp h3
       refine hgo _ _ ?_
       rw [e1]
       obtain ⟨f1, k2, k3, k4, k5⟩ := hkeep v w' e2 e3
       obtain ⟨q1, q2⟩ := k5 hls
       exact ⟨hc', f1, w', k2, k3, k4, by show w'.setRow (blkOf (f x)) (f y).cells = if (s == i || L s) = true then w'.setRow (blkOf (f1 x)) (f1 y).cells else w'; rw [hLs, hls, if_pos rfl, q1, q2]⟩
 · rintro L a w ⟨hc, f, w', rfl, hW, hL, rfl⟩ hLall
   rw [if_pos (hLall _ p1)]
   exact h f w' hW (finF_of hl (fun j hj d e => hL j d e (hLall j hj)) hps)
theorem sto_own {i : Nat} {o : Oper} {f : Nat → Value} {w2 : World} {K : Act → World → Prop} (ty : TypeId) (x y : Nat) (b : Nat) (cells : Array Value) (t : TypeId) (old : Array Value) (ho : ops[i]? = some o) (hg : o.guard = none) (hd : o.dst = none) (hop : o.op = .store ty (.tmp x) (.tmp y))
   (hxs : slots.contains x = true) (hxz : decide (x < base.size) = true) (hx : f x = .pointer (some ⟨b, 0, none⟩)) (hys : slots.contains y = true) (hyz : decide (y < base.size) = true) (hy : f y = .agg cells) (hgr : w2.heap[b]? = some (.cells old t (0, 0))) (hi : (P.info? ty).map (·.size) = some cells.size) (hold : old.size = cells.size) (h1 : cells.all (·.oneCell') = true)
   (hK : K { tmps := regT base slots f, defers := df } (w2.setRow (blkOf (f x)) (f y).cells)) : wpOp P ops Q i K { tmps := regT base slots f, defers := df } w2 := by
 unfold wpOp
 rw [ho]
 simp only [wanted_none hg, if_true]
 have hx' : (regT base slots f).getD x undef = .pointer (some ⟨b, 0, none⟩) := (regT_in (by simpa using hxs) (of_decide_eq_true hxz)).trans hx
 have hy' : (regT base slots f).getD y undef = .agg cells := (regT_in (by simpa using hys) (of_decide_eq_true hyz)).trans hy
 refine .inl (wp_store_row ty (.tmp x) (.tmp y) hop b cells hx' hy' t old hgr hi hold h1 ?_)
 rw [hd]
 rw [hx, hy] at hK
 exact hK
end
end Go.Proofs.Ytnpiepimajippaa
namespace Go.Proofs.Ytnpiepimajippaa
open Go.RowKit St Pm
theorem num_14b (x : Int) (w : World) : Calls Try.prog 27 #[.int .i64 x] w fun e w' => e = .returned (.int .i64 x) ∧ Below w.heap.size w w' := (num_14 x w).mono fun _ _ ⟨h1, h2⟩ => ⟨h1, by rw [← h2]; exact Below.refl _ _⟩
theorem at_reg {l : List Ev} {t : Tr ByteArray} (i : Int) (w : World) (h : AtS w t) (hr : Reg l t) (hz : l.length ≤ 100000) (hi : i ≤ 9223372036854775807) (hi0 : -9223372036854775808 ≤ i) :
   Calls Try.prog 81 #[.agg #[.pointer (pa t)], .int .i64 i] w fun e w' => ∃ x : Ev, e = .returned (.tuple #[.agg #[.int .i64 x.1.g, .int .i64 x.1.r, .string x.1.l, .int .i64 x.1.n, .int .i64 x.1.i, .string x.2], .bool (atE l i).2]) ∧ x = (atE l i).1 ∧ Below w.heap.size w w' := by
 have := jo_At t i w h (by rw [hr.len]; exact hz) hr.keys hi hi0
 rw [hr.shown] at this
 exact this
end Go.Proofs.Ytnpiepimajippaa
