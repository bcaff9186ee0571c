/- Words, contracts and walks that the proof stands on (KnY). -/
import Derived.Test.YtjlliohjeiclaaaDoorKC11
import Derived.Test.YtjlliohjeiclaaaDoorKC2
namespace Go.Proofs.YtjlliohjeiclaaaDoor
open Go.RowKit St Pm Ku Kn
namespace Kn
def lastW (l : List ByteArray) (s : ByteArray) : Nat → Int
 | 0 => 0
 | i + 1 => if i = 0 then 0 else if l.getD i ⟨#[]⟩ = s then (i : Int) else lastW l s i
theorem lastW_word (s : ByteArray) : lastW wordL s 7 = kindG s := by
 by_cases h1 : wordL.getD 1 ⟨#[]⟩ = s
 · subst h1; decide
 by_cases h2 : wordL.getD 2 ⟨#[]⟩ = s
 · subst h2; decide
 by_cases h3 : wordL.getD 3 ⟨#[]⟩ = s
 · subst h3; decide
 by_cases h4 : wordL.getD 4 ⟨#[]⟩ = s
 · subst h4; decide
 by_cases h5 : wordL.getD 5 ⟨#[]⟩ = s
 · subst h5; decide
 by_cases h6 : wordL.getD 6 ⟨#[]⟩ = s
 · subst h6; decide
 have e1 : lastW wordL s 7 = 0 := by simp only [lastW]; rw [if_neg (by omega), if_neg h6, if_neg (by omega), if_neg h5, if_neg (by omega), if_neg h4, if_neg (by omega), if_neg h3, if_neg (by omega), if_neg h2, if_neg (by omega), if_neg h1, if_pos trivial]
 rw [e1]
 unfold kindG
 show 0 = findW [wordL.getD 1 ⟨#[]⟩, wordL.getD 2 ⟨#[]⟩, wordL.getD 3 ⟨#[]⟩, wordL.getD 4 ⟨#[]⟩, wordL.getD 5 ⟨#[]⟩, wordL.getD 6 ⟨#[]⟩] 1 s
 simp only [findW, if_neg h1, if_neg h2, if_neg h3, if_neg h4, if_neg h5, if_neg h6]
theorem lastW_do (s : ByteArray) : lastW doL s 8 = doI s := by
 by_cases h1 : doL.getD 1 ⟨#[]⟩ = s
 · subst h1; decide
 by_cases h2 : doL.getD 2 ⟨#[]⟩ = s
 · subst h2; decide
 by_cases h3 : doL.getD 3 ⟨#[]⟩ = s
 · subst h3; decide
 by_cases h4 : doL.getD 4 ⟨#[]⟩ = s
 · subst h4; decide
 by_cases h5 : doL.getD 5 ⟨#[]⟩ = s
 · subst h5; decide
 by_cases h6 : doL.getD 6 ⟨#[]⟩ = s
 · subst h6; decide
 by_cases h7 : doL.getD 7 ⟨#[]⟩ = s
 · subst h7; decide
 have e1 : lastW doL s 8 = 0 := by simp only [lastW]; rw [if_neg (by omega), if_neg h7, if_neg (by omega), if_neg h6, if_neg (by omega), if_neg h5, if_neg (by omega), if_neg h4, if_neg (by omega), if_neg h3, if_neg (by omega), if_neg h2, if_neg (by omega), if_neg h1, if_pos trivial]
 rw [e1]
 unfold doI
 show 0 = findW [doL.getD 1 ⟨#[]⟩, doL.getD 2 ⟨#[]⟩, doL.getD 3 ⟨#[]⟩, doL.getD 4 ⟨#[]⟩, doL.getD 5 ⟨#[]⟩, doL.getD 6 ⟨#[]⟩, doL.getD 7 ⟨#[]⟩] 1 s
 simp only [findW, if_neg h1, if_neg h2, if_neg h3, if_neg h4, if_neg h5, if_neg h6, if_neg h7]
theorem word_at {j : Nat} (hj : j < 7) {W : World} {g : Nat} (hc : CellsAt W (some ⟨g, 0, none⟩) (txV wordL)) : W.cell? ⟨g, j, none⟩ = some (.string (wordL.getD j ⟨#[]⟩)) := by
 have e : wordL.getD j ⟨#[]⟩ = wordL[j]'(by show j < 7; exact hj) := by rw [List.getD_eq_getElem?_getD, List.getElem?_eq_getElem (by show j < 7; exact hj)]; rfl
 obtain ⟨b, o, h, p0⟩ := tx_get hc j (by show j < 7; exact hj)
 cases h
 rw [e]
 simpa using p0
theorem do_at {j : Nat} (hj : j < 8) {W : World} {g : Nat} (hc : CellsAt W (some ⟨g, 0, none⟩) (txV doL)) : W.cell? ⟨g, j, none⟩ = some (.string (doL.getD j ⟨#[]⟩)) := by
 have e : doL.getD j ⟨#[]⟩ = doL[j]'(by show j < 8; exact hj) := by rw [List.getD_eq_getElem?_getD, List.getElem?_eq_getElem (by show j < 8; exact hj)]; rfl
 obtain ⟨b, o, h, p0⟩ := tx_get hc j (by show j < 8; exact hj)
 cases h
 rw [e]
 simpa using p0
theorem ne_bne (x : Int) : decide (x ≠ 0) = (x != 0) := by by_cases h : x = 0 <;> simp [h]
theorem lastW_step (l : List ByteArray) (s : ByteArray) (i : Nat) (h : 1 ≤ i) : lastW l s (i + 1) = if l.getD i ⟨#[]⟩ = s then (i : Int) else lastW l s i := by
 unfold lastW
 rw [if_neg (by omega)]
 cases i with
 | zero => omega
 | succ i => rfl
end Kn
open Kn
theorem kn_numB (e : Int) (w : World) : Calls Tryd.prog 18 #[.int .i64 e] w fun r w' => r = .returned (.int .i64 e) ∧ Below w.heap.size w w' := (kn_num e w).mono fun _ _ ⟨h1, h2⟩ => ⟨h1, by rw [h2]; exact Below.refl _ _⟩
set_option maxRecDepth 100000 in
set_option maxHeartbeats 8000000 in
theorem law_Ops (pl : List ByteArray) (pk : Int) (px : ByteArray) (pd pm : Int) (pt : ByteArray) (pa : Option Addr) (pn pc : Nat) (k d : Int) (s : ByteArray) (w : World)
 (hp : CellsAt w pa (txV pl)) (hpn : pn = pl.length) (hpz : ∀ x ∈ pl, x.size ≤ 9223372036854775807) (hpx : px.size ≤ 9223372036854775807) (hb : pn ≤ 9223372036854775807) (hG : Glob w) :
 Calls Tryd.prog 5 #[.agg #[.slice pa pn pc, .int .i64 pk, .string px, .int .i64 pd, .int .i64 pm, .string pt], .agg #[.int .i64 k, .int .i64 d], .string s] w fun e w' => e = .returned (.bool true) ∧ Below w.heap.size w w' := by
 have HP := Lib.hid hp
 have HPN := Lib.hid hpn
 have HPZ := Lib.hid hpz
 have HPX := Lib.hid hpx
 have G := Lib.hid hG
 clear hp hpn hpz hpx hG
 have HC : Hid (Chain [w] w) := Lib.hid (Chain.one w)
 go_enter Tryd.func5, Tryd.ntmps5
 go_upto_region 1 with (fail)
 obtain ⟨z, hz⟩ : ∃ c, w.heap.size = c := ⟨_, rfl⟩
 try rw [hz]
 obtain ⟨w1, hw1⟩ : ∃ X, allocs w [.cells #[.slice pa pn pc, .int .i64 pk, .string px, .int .i64 pd, .int .i64 pm, .string pt] 54, .cells #[.int .i64 k, .int .i64 d] 56] = X := ⟨_, rfl⟩
 rw [show (w.alloc (.cells #[.slice pa pn pc, .int .i64 pk, .string px, .int .i64 pd, .int .i64 pm, .string pt] 54)).alloc (.cells #[.int .i64 k, .int .i64 d] 56) = w1 from hw1]
 have hb : Below w.heap.size w w1 := by rw [← hw1]; exact allocs_below _ _
 have HO : Hid (w1.heap[z]? = some (.cells #[.slice pa pn pc, .int .i64 pk, .string px, .int .i64 pd, .int .i64 pm, .string pt] 54 (0, 0))) := Lib.hid (by have := allocs_get [.cells #[.slice pa pn pc, .int .i64 pk, .string px, .int .i64 pd, .int .i64 pm, .string pt] 54, .cells #[.int .i64 k, .int .i64 d] 56] w 0 _ rfl; rw [hw1, hz] at this; exact this)
 have HN : Hid (w1.heap[z + 1]? = some (.cells #[.int .i64 k, .int .i64 d] 56 (0, 0))) := Lib.hid (by have := allocs_get [.cells #[.slice pa pn pc, .int .i64 pk, .string px, .int .i64 pd, .int .i64 pm, .string pt] 54, .cells #[.int .i64 k, .int .i64 d] 56] w 1 _ rfl; rw [hw1, hz] at this; exact this)
 have Sz : Hid (w.heap.size = z) := Lib.hid hz
 replace HC := Lib.hid (HC.out.push hb)
 clear hb hw1 hz
 have kN0 := cell_of_row _ _ 0 _ _ _ HN.out
 have kN1 := cell_of_row _ _ 1 _ _ _ HN.out
 go_quiet (fail)
 clear kN0 kN1
 go_upto_region 2 with (fail)
 obtain ⟨w2, hw2⟩ : ∃ X, w1.drewN nq = X := ⟨_, rfl⟩
 rw [hw2]
 have hb : Below w1.heap.size w1 w2 := by rw [← hw2]; exact below_drews (Below.refl _ _) _
 clear hw2
 replace HC := Lib.hid (HC.out.push hb)
 clear hb
 by_cases h1 : pn ≤ 200
 case neg =>
  have h1i : (200 : Int) < (pn : Int) := by omega
  have kO0 := cell_of_row _ _ 0 _ _ _ (boxStays HO.out (HC.out.to w1 (by simp)))
  have kO1 := cell_of_row _ _ 1 _ _ _ (boxStays HO.out (HC.out.to w1 (by simp)))
  have kO2 := cell_of_row _ _ 2 _ _ _ (boxStays HO.out (HC.out.to w1 (by simp)))
  have kO3 := cell_of_row _ _ 3 _ _ _ (boxStays HO.out (HC.out.to w1 (by simp)))
  have kO4 := cell_of_row _ _ 4 _ _ _ (boxStays HO.out (HC.out.to w1 (by simp)))
  have kO5 := cell_of_row _ _ 5 _ _ _ (boxStays HO.out (HC.out.to w1 (by simp)))
  go_wp2_with fail
  refine (known_09 _ (G.out.below (HC.out.to w (by simp)))).mono ?_
  rintro e w3 ⟨rfl, hb⟩
  clear kO0 kO1 kO2 kO3 kO4 kO5
  replace HC := Lib.hid (HC.out.push hb)
  clear hb
  go_wp2_with fail
  go_ret
  exact ⟨rfl, (HC.out.to w (by simp))⟩
 have h1i : ¬ (200 : Int) < (pn : Int) := by omega
 by_cases h2 : pt.size ≤ 9000
 case neg =>
  have h2i : (9000 : Int) < (pt.size : Int) := by omega
  have kO0 := cell_of_row _ _ 0 _ _ _ (boxStays HO.out (HC.out.to w1 (by simp)))
  have kO1 := cell_of_row _ _ 1 _ _ _ (boxStays HO.out (HC.out.to w1 (by simp)))
  have kO2 := cell_of_row _ _ 2 _ _ _ (boxStays HO.out (HC.out.to w1 (by simp)))
  have kO3 := cell_of_row _ _ 3 _ _ _ (boxStays HO.out (HC.out.to w1 (by simp)))
  have kO4 := cell_of_row _ _ 4 _ _ _ (boxStays HO.out (HC.out.to w1 (by simp)))
  have kO5 := cell_of_row _ _ 5 _ _ _ (boxStays HO.out (HC.out.to w1 (by simp)))
  go_wp2_with fail
  refine (known_09 _ (G.out.below (HC.out.to w (by simp)))).mono ?_
  rintro e w3 ⟨rfl, hb⟩
  clear kO0 kO1 kO2 kO3 kO4 kO5
  replace HC := Lib.hid (HC.out.push hb)
  clear hb
  go_wp2_with fail
  go_ret
  exact ⟨rfl, (HC.out.to w (by simp))⟩
 have h2i : ¬ (9000 : Int) < (pt.size : Int) := by omega
 by_cases h3 : px.size ≤ 9000
 case neg =>
  have h3i : (9000 : Int) < (px.size : Int) := by omega
  have kO0 := cell_of_row _ _ 0 _ _ _ (boxStays HO.out (HC.out.to w1 (by simp)))
  have kO1 := cell_of_row _ _ 1 _ _ _ (boxStays HO.out (HC.out.to w1 (by simp)))
  have kO2 := cell_of_row _ _ 2 _ _ _ (boxStays HO.out (HC.out.to w1 (by simp)))
  have kO3 := cell_of_row _ _ 3 _ _ _ (boxStays HO.out (HC.out.to w1 (by simp)))
  have kO4 := cell_of_row _ _ 4 _ _ _ (boxStays HO.out (HC.out.to w1 (by simp)))
  have kO5 := cell_of_row _ _ 5 _ _ _ (boxStays HO.out (HC.out.to w1 (by simp)))
  go_wp2_with fail
  refine (known_09 _ (G.out.below (HC.out.to w (by simp)))).mono ?_
  rintro e w3 ⟨rfl, hb⟩
  clear kO0 kO1 kO2 kO3 kO4 kO5
  replace HC := Lib.hid (HC.out.push hb)
  clear hb
  go_wp2_with fail
  go_ret
  exact ⟨rfl, (HC.out.to w (by simp))⟩
 have h3i : ¬ (9000 : Int) < (px.size : Int) := by omega
 have kO0 := cell_of_row _ _ 0 _ _ _ (boxStays HO.out (HC.out.to w1 (by simp)))
 have kO1 := cell_of_row _ _ 1 _ _ _ (boxStays HO.out (HC.out.to w1 (by simp)))
 have kO2 := cell_of_row _ _ 2 _ _ _ (boxStays HO.out (HC.out.to w1 (by simp)))
 have kO3 := cell_of_row _ _ 3 _ _ _ (boxStays HO.out (HC.out.to w1 (by simp)))
 have kO4 := cell_of_row _ _ 4 _ _ _ (boxStays HO.out (HC.out.to w1 (by simp)))
 have kO5 := cell_of_row _ _ 5 _ _ _ (boxStays HO.out (HC.out.to w1 (by simp)))
 go_upto_region 4 with (fail)
 clear kO0 kO1 kO2 kO3 kO4 kO5
 go_wp2_with fail
 go_loopw [9] (fun i wr => ∃ j : Nat, i = .int .i64 (j : Int) ∧ j ≤ pn ∧ w2 = wr) (fun i _ => pn - (intOf i).toNat)
 case atStart => exact ⟨0, rfl, Nat.zero_le _, rfl⟩
 case round =>
  obtain ⟨j, rfl, hj, rfl⟩ := hrel
  by_cases hlt : j < pn
  · have hji : (j : Int) < (pn : Int) := by omega
    have hjl : j < pl.length := by have := HPN.out; omega
    obtain ⟨ba, oa, ha, p0⟩ := tx_get (HP.out.below (HC.out.to w (by simp)) rfl) j hjl
    subst ha
    obtain ⟨x, hx⟩ : ∃ x, pl[j] = x := ⟨_, rfl⟩
    rw [hx] at p0
    clear hx
    by_cases hz : x.size ≤ 9000
    · have hzi : ¬ (9000 : Int) < (x.size : Int) := by omega
      have kO0 := cell_of_row _ _ 0 _ _ _ (boxStays HO.out (HC.out.to w1 (by simp)))
      have kO1 := cell_of_row _ _ 1 _ _ _ (boxStays HO.out (HC.out.to w1 (by simp)))
      have kO2 := cell_of_row _ _ 2 _ _ _ (boxStays HO.out (HC.out.to w1 (by simp)))
      have kO3 := cell_of_row _ _ 3 _ _ _ (boxStays HO.out (HC.out.to w1 (by simp)))
      have kO4 := cell_of_row _ _ 4 _ _ _ (boxStays HO.out (HC.out.to w1 (by simp)))
      have kO5 := cell_of_row _ _ 5 _ _ _ (boxStays HO.out (HC.out.to w1 (by simp)))
      go_wp2_with fail
      go_roundw
      case rel => exact ⟨j + 1, by go_num, by omega, by first | trivial | rfl⟩
      case measure => simp [intOf]; omega
    · have hzi : (9000 : Int) < (x.size : Int) := by omega
      have kO0 := cell_of_row _ _ 0 _ _ _ (boxStays HO.out (HC.out.to w1 (by simp)))
      have kO1 := cell_of_row _ _ 1 _ _ _ (boxStays HO.out (HC.out.to w1 (by simp)))
      have kO2 := cell_of_row _ _ 2 _ _ _ (boxStays HO.out (HC.out.to w1 (by simp)))
      have kO3 := cell_of_row _ _ 3 _ _ _ (boxStays HO.out (HC.out.to w1 (by simp)))
      have kO4 := cell_of_row _ _ 4 _ _ _ (boxStays HO.out (HC.out.to w1 (by simp)))
      have kO5 := cell_of_row _ _ 5 _ _ _ (boxStays HO.out (HC.out.to w1 (by simp)))
      go_wp2_with fail
      refine (known_09 _ (G.out.below (HC.out.to w (by simp)))).mono ?_
      rintro e w3 ⟨rfl, hb⟩
      clear kO0 kO1 kO2 kO3 kO4 kO5
      replace HC := Lib.hid (HC.out.push hb)
      clear hb
      go_wp2_with fail
      go_ret
      exact ⟨rfl, (HC.out.to w (by simp))⟩
  · obtain rfl : j = pn := by omega
    have hji : ¬ (j : Int) < (j : Int) := by omega
    have kO0 := cell_of_row _ _ 0 _ _ _ (boxStays HO.out (HC.out.to w1 (by simp)))
    have kO1 := cell_of_row _ _ 1 _ _ _ (boxStays HO.out (HC.out.to w1 (by simp)))
    have kO2 := cell_of_row _ _ 2 _ _ _ (boxStays HO.out (HC.out.to w1 (by simp)))
    have kO3 := cell_of_row _ _ 3 _ _ _ (boxStays HO.out (HC.out.to w1 (by simp)))
    have kO4 := cell_of_row _ _ 4 _ _ _ (boxStays HO.out (HC.out.to w1 (by simp)))
    have kO5 := cell_of_row _ _ 5 _ _ _ (boxStays HO.out (HC.out.to w1 (by simp)))
    go_upto_region 9 with (fail)
    clear kO0 kO1 kO2 kO3 kO4 kO5
    have HJ2 : Hid (Below w.heap.size w w2) := Lib.hid (HC.out.to w (by simp))
    have HO2 := Lib.hid (boxStays HO.out (HC.out.to w1 (by simp)))
    go_cut [10, 11] (fun u10 u11 wx => u10 = .string ⟨#[]⟩ ∧ u11 = .string ⟨#[]⟩ ∧ w2 = wx)
    case first =>
     go_wp2_with fail
     go_meet
     exact ⟨rfl, rfl, rfl⟩
    case rest =>
     obtain ⟨rfl, rfl, rfl⟩ := hcut
     go_step
     go_step
     go_cut [10] (fun u10 wx => u10 = .string (wordG k) ∧ Hid (Below w2.heap.size w2 wx))
     case first =>
      by_cases hk1 : 1 ≤ k
      · by_cases hk2 : k ≤ 6
        · obtain ⟨j, rfl⟩ : ∃ j : Nat, k = (j : Int) := ⟨k.toNat, by omega⟩
          obtain ⟨x, hx⟩ : ∃ x, wordL.getD j ⟨#[]⟩ = x := ⟨_, rfl⟩
          have WG : Hid (wordG (j : Int) = x) := Lib.hid (by unfold wordG; rw [if_pos ⟨hk1, hk2⟩, ← hx]; simp)
          have hj : j < 7 := by omega
          have hji : (j : Int) < 7 := by omega
          have VJ : Hid (∀ (W' : World) (g : Nat), CellsAt W' (some ⟨g, 0, none⟩) (txV wordL) → W'.cell? ⟨g, j, none⟩ = some (.string x)) := Lib.hid (fun W' g hc => by rw [← hx]; exact word_at hj hc)
          clear hj hx
          go_wp2_with fail
          refine (kr_Words _).mono ?_
          rintro e wa ⟨gw, rfl, hc, hb⟩
          replace HC := Lib.hid (HC.out.push hb)
          clear hb
          have p0 := VJ.out _ _ hc
          clear hc
          go_wp2_with fail
          go_meet
          exact ⟨by rw [WG.out], Lib.hid (HC.out.to w2 (by simp))⟩
        · have WG : Hid (wordG k = ⟨#[]⟩) := Lib.hid (by unfold wordG; rw [if_neg (fun h => hk2 h.2)])
          have e1 : decide (1 ≤ k) = true := decide_eq_true hk1
          have e2 : decide (k ≤ 6) = false := decide_eq_false hk2
          go_wp2_with fail
          go_meet
          exact ⟨by rw [WG.out], Lib.hid (Below.refl _ _)⟩
      · have WG : Hid (wordG k = ⟨#[]⟩) := Lib.hid (by unfold wordG; rw [if_neg (fun h => hk1 h.1)])
        have e1 : decide (1 ≤ k) = false := decide_eq_false hk1
        go_wp2_with fail
        go_meet
        exact ⟨by rw [WG.out], Lib.hid (Below.refl _ _)⟩
     case rest =>
      obtain ⟨rfl, HBC⟩ := hcut
      obtain ⟨w3, rfl⟩ : ∃ X : World, X = wc := ⟨_, rfl⟩
      have hb := HBC.out
      replace HC := Lib.hid (HC.out.push hb)
      clear hb
      clear HBC
      go_step
      go_step
      go_cut [11] (fun u11 wx => u11 = .string (doG d) ∧ Hid (Below w3.heap.size w3 wx))
      case first =>
       by_cases hk1 : 1 ≤ d
       · by_cases hk2 : d ≤ 7
         · obtain ⟨j, rfl⟩ : ∃ j : Nat, d = (j : Int) := ⟨d.toNat, by omega⟩
           obtain ⟨x, hx⟩ : ∃ x, doL.getD j ⟨#[]⟩ = x := ⟨_, rfl⟩
           have WG : Hid (doG (j : Int) = x) := Lib.hid (by unfold doG; rw [if_pos ⟨hk1, hk2⟩, ← hx]; simp)
           have hj : j < 8 := by omega
           have hji : (j : Int) < 8 := by omega
           have VJ : Hid (∀ (W' : World) (g : Nat), CellsAt W' (some ⟨g, 0, none⟩) (txV doL) → W'.cell? ⟨g, j, none⟩ = some (.string x)) := Lib.hid (fun W' g hc => by rw [← hx]; exact do_at hj hc)
           clear hj hx
           go_wp2_with fail
           refine (kr_DoWords _).mono ?_
           rintro e wa ⟨gw, rfl, hc, hb⟩
           replace HC := Lib.hid (HC.out.push hb)
           clear hb
           have p0 := VJ.out _ _ hc
           clear hc
           go_wp2_with fail
           go_meet
           exact ⟨by rw [WG.out], Lib.hid (HC.out.to w3 (by simp))⟩
         · have WG : Hid (doG d = ⟨#[]⟩) := Lib.hid (by unfold doG; rw [if_neg (fun h => hk2 h.2)])
           have e1 : decide (1 ≤ d) = true := decide_eq_true hk1
           have e2 : decide (d ≤ 7) = false := decide_eq_false hk2
           go_wp2_with fail
           go_meet
           exact ⟨by rw [WG.out], Lib.hid (Below.refl _ _)⟩
       · have WG : Hid (doG d = ⟨#[]⟩) := Lib.hid (by unfold doG; rw [if_neg (fun h => hk1 h.1)])
         have e1 : decide (1 ≤ d) = false := decide_eq_false hk1
         go_wp2_with fail
         go_meet
         exact ⟨by rw [WG.out], Lib.hid (Below.refl _ _)⟩
      case rest =>
       obtain ⟨rfl, HBC⟩ := hcut
       obtain ⟨w4, rfl⟩ : ∃ X : World, X = wc := ⟨_, rfl⟩
       have hb := HBC.out
       replace HC := Lib.hid (HC.out.push hb)
       clear hb
       clear HBC
       go_wp2_with fail
       go_loopw [12, 14] (fun u12 u14 wr => ∃ (i : Nat) (wq : World), wq = wr ∧ u14 = .int .i64 (i : Int) ∧ 1 ≤ i ∧ i ≤ 7 ∧ u12 = .int .i64 (lastW wordL s i) ∧ Hid (Below w4.heap.size w4 wq)) (fun _ u14 _ => 7 - (intOf u14).toNat)
       case atStart => exact ⟨1, _, rfl, rfl, by omega, by omega, rfl, Lib.hid (Below.refl _ _)⟩
       case round =>
        obtain ⟨i, wq, rfl, rfl, h1, h2, rfl, HB⟩ := hrel
        have hb := HB.out
        replace HC := Lib.hid (HC.out.push hb)
        clear hb
        clear HB
        by_cases hlt : i < 7
        · have hli : (i : Int) < 7 := by omega
          have VJ : Hid (∀ (W' : World) (g : Nat), CellsAt W' (some ⟨g, 0, none⟩) (txV wordL) → W'.cell? ⟨g, i, none⟩ = some (.string (wordL.getD i ⟨#[]⟩))) := Lib.hid (fun W' g hc => word_at hlt hc)
          have ST : Hid (lastW wordL s (i + 1) = if wordL.getD i ⟨#[]⟩ = s then (i : Int) else lastW wordL s i) := Lib.hid (lastW_step _ _ _ h1)
          go_wp2_with fail
          refine (kr_Words _).mono ?_
          rintro e wa ⟨gw, rfl, hc, hb⟩
          replace HC := Lib.hid (HC.out.push hb)
          clear hb
          have p0 := VJ.out _ _ hc
          clear hc
          obtain ⟨x, hx⟩ : ∃ x, wordL.getD i ⟨#[]⟩ = x := ⟨_, rfl⟩
          rw [hx] at p0 ST
          clear hx VJ
          by_cases he : x = s
          · have he2 := Lib.hid he
            have hd : (x.toList == s.toList) = true := by rw [Pm.eq_iff]; simpa using he
            have ST2 : Hid ((i : Int) = lastW wordL s (i + 1)) := Lib.hid (by rw [ST.out, if_pos he])
            clear he ST
            go_wp2_with fail
            go_roundw
            case rel => exact ⟨i + 1, _, rfl, by go_num, by omega, by omega, by rw [← ST2.out], Lib.hid (HC.out.to w4 (by simp))⟩
            case measure => simp [intOf]; omega
          · have hd : (x.toList == s.toList) = false := by rw [Pm.eq_iff]; simpa using he
            have ST2 : Hid (lastW wordL s i = lastW wordL s (i + 1)) := Lib.hid (by rw [ST.out, if_neg he])
            clear he ST
            go_wp2_with fail
            go_roundw
            case rel => exact ⟨i + 1, _, rfl, by go_num, by omega, by omega, by rw [← ST2.out], Lib.hid (HC.out.to w4 (by simp))⟩
            case measure => simp [intOf]; omega
        · have h7 : Hid (lastW wordL s i = kindG s) := Lib.hid (by rw [show i = 7 by omega, lastW_word])
          have hni : ¬ (i : Int) < 7 := by omega
          clear h1 h2 hlt
          rw [h7.out]
          clear h7
          go_wp2_with fail
          go_loopw [13, 15] (fun u13 u15 wr => ∃ (q : Nat) (wp : World), wp = wr ∧ u15 = .int .i64 (q : Int) ∧ 1 ≤ q ∧ q ≤ 8 ∧ u13 = .int .i64 (lastW doL s q) ∧ Hid (Below wq.heap.size wq wp)) (fun _ u15 _ => 8 - (intOf u15).toNat)
          case atStart => exact ⟨1, _, rfl, rfl, by omega, by omega, rfl, Lib.hid (Below.refl _ _)⟩
          case round =>
           obtain ⟨q, wp, rfl, rfl, h1, h2, rfl, HB⟩ := hrel
           have hb := HB.out
           replace HC := Lib.hid (HC.out.push hb)
           clear hb
           clear HB
           by_cases hlt : q < 8
           · have hli : (q : Int) < 8 := by omega
             have VJ : Hid (∀ (W' : World) (g : Nat), CellsAt W' (some ⟨g, 0, none⟩) (txV doL) → W'.cell? ⟨g, q, none⟩ = some (.string (doL.getD q ⟨#[]⟩))) := Lib.hid (fun W' g hc => do_at hlt hc)
             have ST : Hid (lastW doL s (q + 1) = if doL.getD q ⟨#[]⟩ = s then (q : Int) else lastW doL s q) := Lib.hid (lastW_step _ _ _ h1)
             go_wp2_with fail
             refine (kr_DoWords _).mono ?_
             rintro e wa ⟨gw, rfl, hc, hb⟩
             replace HC := Lib.hid (HC.out.push hb)
             clear hb
             have p0 := VJ.out _ _ hc
             clear hc
             obtain ⟨x, hx⟩ : ∃ x, doL.getD q ⟨#[]⟩ = x := ⟨_, rfl⟩
             rw [hx] at p0 ST
             clear hx VJ
             by_cases he : x = s
             · have hd : (x.toList == s.toList) = true := by rw [Pm.eq_iff]; simpa using he
               have ST2 : Hid ((q : Int) = lastW doL s (q + 1)) := Lib.hid (by rw [ST.out, if_pos he])
               clear he ST
               go_wp2_with fail
               go_roundw
               case rel => exact ⟨q + 1, _, rfl, by go_num, by omega, by omega, by rw [← ST2.out], Lib.hid (HC.out.to wq (by simp))⟩
               case measure => simp [intOf]; omega
             · have hd : (x.toList == s.toList) = false := by rw [Pm.eq_iff]; simpa using he
               have ST2 : Hid (lastW doL s q = lastW doL s (q + 1)) := Lib.hid (by rw [ST.out, if_neg he])
               clear he ST
               go_wp2_with fail
               go_roundw
               case rel => exact ⟨q + 1, _, rfl, by go_num, by omega, by omega, by rw [← ST2.out], Lib.hid (HC.out.to wq (by simp))⟩
               case measure => simp [intOf]; omega
           · have h8 : Hid (lastW doL s q = doI s) := Lib.hid (by rw [show q = 8 by omega, lastW_do])
             have hnq : ¬ (q : Int) < 8 := by omega
             clear h1 h2 hlt
             rw [h8.out]
             clear h8
             obtain ⟨kg, hkg⟩ : ∃ x, kindG s = x := ⟨_, rfl⟩
             obtain ⟨dg, hdg⟩ : ∃ x, doI s = x := ⟨_, rfl⟩
             have KK : Hid (∀ W, Calls Tryd.prog 21 #[.string s] W fun e w' => e = .returned (.tuple #[.int .i64 kg, .bool (kg != 0)]) ∧ Below W.heap.size W w') := Lib.hid (fun W => (kn_Kind s W).mono fun _ _ ⟨h1, h2⟩ => ⟨h1.trans (by rw [hkg, ne_bne]), h2⟩)
             have KD : Hid (∀ W, Calls Tryd.prog 22 #[.string s] W fun e w' => e = .returned (.tuple #[.int .i64 dg, .bool (dg != 0)]) ∧ Below W.heap.size W w') := Lib.hid (fun W => (kn_Do s W).mono fun _ _ ⟨h1, h2⟩ => ⟨h1.trans (by rw [hdg, ne_bne]), h2⟩)
             rw [hkg, hdg]
             clear hkg hdg
             go_wp2_with fail
             refine (KK.out _).mono ?_
             rintro e wk ⟨rfl, hb⟩
             replace HC := Lib.hid (HC.out.push hb)
             clear hb
             go_wp2_with fail
             refine (KD.out _).mono ?_
             rintro e wd ⟨rfl, hb⟩
             replace HC := Lib.hid (HC.out.push hb)
             clear hb
             go_upto_region 27 with (fail)
             clear KK KD
             have BW := Lib.hid (HC.out.to w (by simp))
             have YO := Lib.hid (boxStays HO.out (HC.out.to w1 (by simp)))
             obtain ⟨ce, hce⟩ : ∃ x, checkK pl pk px pd pm pt = x := ⟨_, rfl⟩
             obtain ⟨st, hst⟩ : ∃ x, stampedG pl pk px pd pm pt = x := ⟨_, rfl⟩
             obtain ⟨wk1, hwk⟩ : ∃ x, wordG k = x := ⟨_, rfl⟩
             obtain ⟨wd1, hwd⟩ : ∃ x, doG d = x := ⟨_, rfl⟩
             obtain ⟨kk, hkk⟩ : ∃ x, kindK d = x := ⟨_, rfl⟩
             rw [hwk, hwd]
             have CE := Lib.hid hce
             have SE := Lib.hid hst
             have WKE := Lib.hid hwk
             have WDE := Lib.hid hwd
             have KE := Lib.hid hkk
             clear hce hst hwk hwd hkk HO HN HO2 HJ2
             go_cut [6] (fun u6 wx => u6 = .bool true ∧ Hid (Below wd.heap.size wd wx))
             case first =>
              refine relG_start (slots := [108, 109, 110, 111, 112, 113, 114, 115, 116, 117, 118, 119, 120, 121, 122, 123, 124, 125, 126, 127, 128, 129, 130, 131, 132, 133, 134, 135, 136, 137, 138, 139, 140, 141, 142, 143, 144, 145, 146, 147, 148, 149, 150, 151, 152, 153, 154, 155, 156, 157, 158, 159, 160, 161, 162, 163, 164, 6]) (so := []) (by kernel_rfl) (by kernel_rfl) (by rfl) ?_
              refine relG_pure (i := 0) (o := ⟨some 108, _, _, _, _, _⟩) (v := ?v1) [] [3] rfl rfl (by kernel_rfl) (by kernel_rfl) (fun t w1 hB hf hbf => ?y1) ?n1
              case y1 =>
               simp only [BasF] at hbf
               clear hf
               obtain ⟨⟨b3, k3⟩, _⟩ := hbf
               have bw := BW.out.trans (hB.mono BW.out.size)
               have yo := boxStays YO.out hB
               have o0 := cell_of_row _ z 0 _ _ _ yo
               have o1 := cell_of_row _ z 1 _ _ _ yo
               have o2 := cell_of_row _ z 2 _ _ _ yo
               have o3 := cell_of_row _ z 3 _ _ _ yo
               have o4 := cell_of_row _ z 4 _ _ _ yo
               have o5 := cell_of_row _ z 5 _ _ _ yo
               clear yo
               refine Or.inl ⟨wanted_none rfl, ?_⟩
               rintro _ rfl
               go_simp <;> with_reducible rfl
              refine relG_call (i := 1) (o := ⟨some 109, _, _, _, _, _⟩) ((fun v _ => v = .int .i64 ce)) [(0, 108, 0)] [] rfl rfl (by kernel_rfl) (by kernel_rfl) ((fun _ _ _ h _ => h)) ?_ ?_
              · intro t w1 hB hf hbf K hK
                simp only [DepF, List.getD_cons_zero] at hf
                obtain ⟨⟨_, ⟨e108, i108⟩, rfl⟩, _⟩ := hf
                clear hbf
                have bw := BW.out.trans (hB.mono BW.out.size)
                have yo := boxStays YO.out hB
                have o0 := cell_of_row _ z 0 _ _ _ yo
                have o1 := cell_of_row _ z 1 _ _ _ yo
                have o2 := cell_of_row _ z 2 _ _ _ yo
                have o3 := cell_of_row _ z 3 _ _ _ yo
                have o4 := cell_of_row _ z 4 _ _ _ yo
                have o5 := cell_of_row _ z 5 _ _ _ yo
                clear yo
                refine ⟨wanted_none rfl, ?_⟩
                go_simp
                refine (kn_Check pl pk px pd pm pt pa j pc w1 (HP.out.below bw rfl) HPN.out HPZ.out HPX.out (G.out.below bw)).mono ?_
                rintro e w2 ⟨rfl, hb⟩
                exact hK.out _ w2 (by rw [CE.out]) hb
              refine relG_call (i := 2) (o := ⟨some 110, _, _, _, _, _⟩) ((fun v _ => v = .int .i64 ce)) [(1, 109, 0)] [] rfl rfl (by kernel_rfl) (by kernel_rfl) ((fun _ _ _ h _ => h)) ?_ ?_
              · intro t w1 hB hf hbf K hK
                simp only [DepF, List.getD_cons_zero] at hf
                obtain ⟨⟨_, ⟨e109, i109⟩, rfl⟩, _⟩ := hf
                clear hbf
                have bw := BW.out.trans (hB.mono BW.out.size)
                have yo := boxStays YO.out hB
                have o0 := cell_of_row _ z 0 _ _ _ yo
                have o1 := cell_of_row _ z 1 _ _ _ yo
                have o2 := cell_of_row _ z 2 _ _ _ yo
                have o3 := cell_of_row _ z 3 _ _ _ yo
                have o4 := cell_of_row _ z 4 _ _ _ yo
                have o5 := cell_of_row _ z 5 _ _ _ yo
                clear yo
                refine ⟨wanted_none rfl, ?_⟩
                go_simp
                refine (kn_numB ce w1).mono ?_
                rintro e w2 ⟨rfl, hb⟩
                exact hK.out _ w2 (rfl) hb
              refine relG_pure (i := 3) (o := ⟨some 111, _, _, _, _, _⟩) (v := ?v2) [] [3] rfl rfl (by kernel_rfl) (by kernel_rfl) (fun t w1 hB hf hbf => ?y2) ?n2
              case y2 =>
               simp only [BasF] at hbf
               clear hf
               obtain ⟨⟨b3, k3⟩, _⟩ := hbf
               have bw := BW.out.trans (hB.mono BW.out.size)
               have yo := boxStays YO.out hB
               have o0 := cell_of_row _ z 0 _ _ _ yo
               have o1 := cell_of_row _ z 1 _ _ _ yo
               have o2 := cell_of_row _ z 2 _ _ _ yo
               have o3 := cell_of_row _ z 3 _ _ _ yo
               have o4 := cell_of_row _ z 4 _ _ _ yo
               have o5 := cell_of_row _ z 5 _ _ _ yo
               clear yo
               refine Or.inl ⟨wanted_none rfl, ?_⟩
               rintro _ rfl
               go_simp <;> with_reducible rfl
              refine relG_call (i := 4) (o := ⟨some 112, _, _, _, _, _⟩) ((fun v _ => v = .int .i64 ce)) [(3, 111, 0)] [] rfl rfl (by kernel_rfl) (by kernel_rfl) ((fun _ _ _ h _ => h)) ?_ ?_
              · intro t w1 hB hf hbf K hK
                simp only [DepF, List.getD_cons_zero] at hf
                obtain ⟨⟨_, ⟨e111, i111⟩, rfl⟩, _⟩ := hf
                clear hbf
                have bw := BW.out.trans (hB.mono BW.out.size)
                have yo := boxStays YO.out hB
                have o0 := cell_of_row _ z 0 _ _ _ yo
                have o1 := cell_of_row _ z 1 _ _ _ yo
                have o2 := cell_of_row _ z 2 _ _ _ yo
                have o3 := cell_of_row _ z 3 _ _ _ yo
                have o4 := cell_of_row _ z 4 _ _ _ yo
                have o5 := cell_of_row _ z 5 _ _ _ yo
                clear yo
                refine ⟨wanted_none rfl, ?_⟩
                go_simp
                refine (kr_Check pl pk px pd pm pt pa j pc w1 (HP.out.below bw rfl) HPN.out).mono ?_
                rintro e w2 ⟨rfl, hb⟩
                exact hK.out _ w2 (by rw [CE.out]) hb
              refine relG_pure (i := 5) (o := ⟨some 113, _, _, _, _, _⟩) (v := ?v3) [(2, 110, 2), (4, 112, 0)] [] rfl rfl (by kernel_rfl) (by kernel_rfl) (fun t w1 hB hf hbf => ?y3) ?n3
              case y3 =>
               simp only [DepF, List.getD_cons_zero, List.getD_cons_succ] at hf
               obtain ⟨⟨_, ⟨e110, i110⟩, rfl⟩, ⟨_, ⟨e112, i112⟩, rfl⟩, _⟩ := hf
               clear hbf
               have bw := BW.out.trans (hB.mono BW.out.size)
               have yo := boxStays YO.out hB
               have o0 := cell_of_row _ z 0 _ _ _ yo
               have o1 := cell_of_row _ z 1 _ _ _ yo
               have o2 := cell_of_row _ z 2 _ _ _ yo
               have o3 := cell_of_row _ z 3 _ _ _ yo
               have o4 := cell_of_row _ z 4 _ _ _ yo
               have o5 := cell_of_row _ z 5 _ _ _ yo
               clear yo
               refine Or.inl ⟨wanted_none rfl, ?_⟩
               rintro _ rfl
               go_simp <;> with_reducible rfl
              refine relG_pure (i := 6) (o := ⟨some 114, _, _, _, _, _⟩) (v := ?v4) [(5, 113, 0)] [] rfl rfl (by kernel_rfl) (by kernel_rfl) (fun t w1 hB hf hbf => ?y4) ?n4
              case y4 =>
               simp only [DepF, List.getD_cons_zero] at hf
               obtain ⟨⟨_, ⟨e113, i113⟩, rfl⟩, _⟩ := hf
               clear hbf
               have bw := BW.out.trans (hB.mono BW.out.size)
               have yo := boxStays YO.out hB
               have o0 := cell_of_row _ z 0 _ _ _ yo
               have o1 := cell_of_row _ z 1 _ _ _ yo
               have o2 := cell_of_row _ z 2 _ _ _ yo
               have o3 := cell_of_row _ z 3 _ _ _ yo
               have o4 := cell_of_row _ z 4 _ _ _ yo
               have o5 := cell_of_row _ z 5 _ _ _ yo
               clear yo
               refine Or.inl ⟨wanted_none rfl, ?_⟩
               rintro _ rfl
               go_simp <;> with_reducible rfl
              refine relG_pure (i := 7) (o := ⟨some 115, _, _, _, _, _⟩) (v := ?v5) [(6, 114, 0)] [3] rfl rfl (by kernel_rfl) (by kernel_rfl) (fun t w1 hB hf hbf => ?y5) ?n5
              case y5 =>
               simp only [DepF, List.getD_cons_zero] at hf
               simp only [BasF] at hbf
               obtain ⟨⟨_, ⟨e114, i114⟩, rfl⟩, _⟩ := hf
               obtain ⟨⟨b3, k3⟩, _⟩ := hbf
               have bw := BW.out.trans (hB.mono BW.out.size)
               have yo := boxStays YO.out hB
               have o0 := cell_of_row _ z 0 _ _ _ yo
               have o1 := cell_of_row _ z 1 _ _ _ yo
               have o2 := cell_of_row _ z 2 _ _ _ yo
               have o3 := cell_of_row _ z 3 _ _ _ yo
               have o4 := cell_of_row _ z 4 _ _ _ yo
               have o5 := cell_of_row _ z 5 _ _ _ yo
               clear yo
               refine Or.inl ⟨(by have hg := getD_some i114; simp [Region.wanted, yielded, hg]), ?_⟩
               rintro _ rfl
               go_simp <;> with_reducible rfl
              refine relG_call (i := 8) (o := ⟨some 116, _, _, _, _, _⟩) ((fun v _ => v = .bool st)) [(7, 115, 0), (6, 114, 1)] [] rfl rfl (by kernel_rfl) (by kernel_rfl) ((fun _ _ _ h _ => h)) ?_ ?_
              · intro t w1 hB hf hbf K hK
                simp only [DepF, List.getD_cons_zero, List.getD_cons_succ] at hf
                obtain ⟨⟨_, ⟨e115, i115⟩, rfl⟩, ⟨_, ⟨e114, i114⟩, rfl⟩, _⟩ := hf
                clear hbf
                have bw := BW.out.trans (hB.mono BW.out.size)
                have yo := boxStays YO.out hB
                have o0 := cell_of_row _ z 0 _ _ _ yo
                have o1 := cell_of_row _ z 1 _ _ _ yo
                have o2 := cell_of_row _ z 2 _ _ _ yo
                have o3 := cell_of_row _ z 3 _ _ _ yo
                have o4 := cell_of_row _ z 4 _ _ _ yo
                have o5 := cell_of_row _ z 5 _ _ _ yo
                clear yo
                refine ⟨(by have hg := getD_some i114; simp [Region.wanted, yielded, hg]), ?_⟩
                go_simp
                refine (kn_Stamped pl pk px pd pm pt pa j pc w1 (HP.out.below bw rfl) HPN.out HPZ.out HPX.out (G.out.below bw)).mono ?_
                rintro e w2 ⟨rfl, hb⟩
                exact hK.out _ w2 (by rw [SE.out]) hb
              refine relG_pure (i := 9) (o := ⟨some 117, _, _, _, _, _⟩) (v := ?v6) [(6, 114, 2)] [3] rfl rfl (by kernel_rfl) (by kernel_rfl) (fun t w1 hB hf hbf => ?y6) ?n6
              case y6 =>
               simp only [DepF, List.getD_cons_zero, List.getD_cons_succ] at hf
               simp only [BasF] at hbf
               obtain ⟨⟨_, ⟨e114, i114⟩, rfl⟩, _⟩ := hf
               obtain ⟨⟨b3, k3⟩, _⟩ := hbf
               have bw := BW.out.trans (hB.mono BW.out.size)
               have yo := boxStays YO.out hB
               have o0 := cell_of_row _ z 0 _ _ _ yo
               have o1 := cell_of_row _ z 1 _ _ _ yo
               have o2 := cell_of_row _ z 2 _ _ _ yo
               have o3 := cell_of_row _ z 3 _ _ _ yo
               have o4 := cell_of_row _ z 4 _ _ _ yo
               have o5 := cell_of_row _ z 5 _ _ _ yo
               clear yo
               refine Or.inl ⟨(by have hg := getD_some i114; simp [Region.wanted, yielded, hg]), ?_⟩
               rintro _ rfl
               go_simp <;> with_reducible rfl
              refine relG_call (i := 10) (o := ⟨some 118, _, _, _, _, _⟩) ((fun v _ => v = .bool st)) [(9, 117, 0), (6, 114, 3)] [] rfl rfl (by kernel_rfl) (by kernel_rfl) ((fun _ _ _ h _ => h)) ?_ ?_
              · intro t w1 hB hf hbf K hK
                simp only [DepF, List.getD_cons_zero, List.getD_cons_succ] at hf
                obtain ⟨⟨_, ⟨e117, i117⟩, rfl⟩, ⟨_, ⟨e114, i114⟩, rfl⟩, _⟩ := hf
                clear hbf
                have bw := BW.out.trans (hB.mono BW.out.size)
                have yo := boxStays YO.out hB
                have o0 := cell_of_row _ z 0 _ _ _ yo
                have o1 := cell_of_row _ z 1 _ _ _ yo
                have o2 := cell_of_row _ z 2 _ _ _ yo
                have o3 := cell_of_row _ z 3 _ _ _ yo
                have o4 := cell_of_row _ z 4 _ _ _ yo
                have o5 := cell_of_row _ z 5 _ _ _ yo
                clear yo
                refine ⟨(by have hg := getD_some i114; simp [Region.wanted, yielded, hg]), ?_⟩
                go_simp
                refine (kr_Stamped pl pk px pd pm pt pa j pc w1 (HP.out.below bw rfl) HPN.out).mono ?_
                rintro e w2 ⟨rfl, hb⟩
                exact hK.out _ w2 (by rw [SE.out]) hb
              refine relG_pure (i := 11) (o := ⟨some 119, _, _, _, _, _⟩) (v := ?v7) [(8, 116, 2), (10, 118, 0), (6, 114, 4)] [] rfl rfl (by kernel_rfl) (by kernel_rfl) (fun t w1 hB hf hbf => ?y7) ?n7
              case y7 =>
               simp only [DepF, List.getD_cons_zero, List.getD_cons_succ] at hf
               obtain ⟨⟨_, ⟨e116, i116⟩, rfl⟩, ⟨_, ⟨e118, i118⟩, rfl⟩, ⟨_, ⟨e114, i114⟩, rfl⟩, _⟩ := hf
               clear hbf
               have bw := BW.out.trans (hB.mono BW.out.size)
               have yo := boxStays YO.out hB
               have o0 := cell_of_row _ z 0 _ _ _ yo
               have o1 := cell_of_row _ z 1 _ _ _ yo
               have o2 := cell_of_row _ z 2 _ _ _ yo
               have o3 := cell_of_row _ z 3 _ _ _ yo
               have o4 := cell_of_row _ z 4 _ _ _ yo
               have o5 := cell_of_row _ z 5 _ _ _ yo
               clear yo
               refine Or.inl ⟨(by have hg := getD_some i114; simp [Region.wanted, yielded, hg]), ?_⟩
               rintro _ rfl
               go_simp <;> with_reducible rfl
              refine relG_pure (i := 12) (o := ⟨some 120, _, _, _, _, _⟩) (v := ?v8) [(6, 114, 5), (11, 119, 0)] [] rfl rfl (by kernel_rfl) (by kernel_rfl) (fun t w1 hB hf hbf => ?y8) ?n8
              case y8 =>
               simp only [DepF, List.getD_cons_zero, List.getD_cons_succ] at hf
               obtain ⟨⟨_, ⟨e114, i114⟩, rfl⟩, ⟨_, ⟨e119, i119⟩, rfl⟩, _⟩ := hf
               clear hbf
               have bw := BW.out.trans (hB.mono BW.out.size)
               have yo := boxStays YO.out hB
               have o0 := cell_of_row _ z 0 _ _ _ yo
               have o1 := cell_of_row _ z 1 _ _ _ yo
               have o2 := cell_of_row _ z 2 _ _ _ yo
               have o3 := cell_of_row _ z 3 _ _ _ yo
               have o4 := cell_of_row _ z 4 _ _ _ yo
               have o5 := cell_of_row _ z 5 _ _ _ yo
               clear yo
               refine Or.inl ⟨wanted_none rfl, ?_⟩
               rintro _ rfl
               go_simp <;> with_reducible rfl
              refine relG_pure (i := 13) (o := ⟨some 121, _, _, _, _, _⟩) (v := ?v9) [(12, 120, 0)] [] rfl rfl (by kernel_rfl) (by kernel_rfl) (fun t w1 hB hf hbf => ?y9) ?n9
              case y9 =>
               simp only [DepF, List.getD_cons_zero] at hf
               obtain ⟨⟨_, ⟨e120, i120⟩, rfl⟩, _⟩ := hf
               clear hbf
               have bw := BW.out.trans (hB.mono BW.out.size)
               have yo := boxStays YO.out hB
               have o0 := cell_of_row _ z 0 _ _ _ yo
               have o1 := cell_of_row _ z 1 _ _ _ yo
               have o2 := cell_of_row _ z 2 _ _ _ yo
               have o3 := cell_of_row _ z 3 _ _ _ yo
               have o4 := cell_of_row _ z 4 _ _ _ yo
               have o5 := cell_of_row _ z 5 _ _ _ yo
               clear yo
               refine Or.inl ⟨wanted_none rfl, ?_⟩
               rintro _ rfl
               go_simp <;> with_reducible rfl
              refine relG_pure (i := 14) (o := ⟨some 122, _, _, _, _, _⟩) (v := ?v10) [(13, 121, 0)] [7] rfl rfl (by kernel_rfl) (by kernel_rfl) (fun t w1 hB hf hbf => ?y10) ?n10
              case y10 =>
               simp only [DepF, List.getD_cons_zero] at hf
               simp only [BasF] at hbf
               obtain ⟨⟨_, ⟨e121, i121⟩, rfl⟩, _⟩ := hf
               obtain ⟨⟨b7, k7⟩, _⟩ := hbf
               have bw := BW.out.trans (hB.mono BW.out.size)
               have yo := boxStays YO.out hB
               have o0 := cell_of_row _ z 0 _ _ _ yo
               have o1 := cell_of_row _ z 1 _ _ _ yo
               have o2 := cell_of_row _ z 2 _ _ _ yo
               have o3 := cell_of_row _ z 3 _ _ _ yo
               have o4 := cell_of_row _ z 4 _ _ _ yo
               have o5 := cell_of_row _ z 5 _ _ _ yo
               clear yo
               refine Or.inl ⟨(by have hg := getD_some i121; simp [Region.wanted, yielded, hg]), ?_⟩
               rintro _ rfl
               go_simp <;> with_reducible rfl
              refine relG_call (i := 15) (o := ⟨some 123, _, _, _, _, _⟩) ((fun v _ => v = .string wk1)) [(14, 122, 0), (13, 121, 1)] [] rfl rfl (by kernel_rfl) (by kernel_rfl) ((fun _ _ _ h _ => h)) ?_ ?_
              · intro t w1 hB hf hbf K hK
                simp only [DepF, List.getD_cons_zero, List.getD_cons_succ] at hf
                obtain ⟨⟨_, ⟨e122, i122⟩, rfl⟩, ⟨_, ⟨e121, i121⟩, rfl⟩, _⟩ := hf
                clear hbf
                have bw := BW.out.trans (hB.mono BW.out.size)
                have yo := boxStays YO.out hB
                have o0 := cell_of_row _ z 0 _ _ _ yo
                have o1 := cell_of_row _ z 1 _ _ _ yo
                have o2 := cell_of_row _ z 2 _ _ _ yo
                have o3 := cell_of_row _ z 3 _ _ _ yo
                have o4 := cell_of_row _ z 4 _ _ _ yo
                have o5 := cell_of_row _ z 5 _ _ _ yo
                clear yo
                refine ⟨(by have hg := getD_some i121; simp [Region.wanted, yielded, hg]), ?_⟩
                go_simp
                refine (kn_Word k w1).mono ?_
                rintro e w2 ⟨rfl, hb⟩
                exact hK.out _ w2 (by rw [WKE.out]) hb
              refine relG_pure (i := 16) (o := ⟨some 124, _, _, _, _, _⟩) (v := ?v11) [(13, 121, 2)] [10] rfl rfl (by kernel_rfl) (by kernel_rfl) (fun t w1 hB hf hbf => ?y11) ?n11
              case y11 =>
               simp only [DepF, List.getD_cons_zero, List.getD_cons_succ] at hf
               simp only [BasF] at hbf
               obtain ⟨⟨_, ⟨e121, i121⟩, rfl⟩, _⟩ := hf
               obtain ⟨⟨b10, k10⟩, _⟩ := hbf
               have bw := BW.out.trans (hB.mono BW.out.size)
               have yo := boxStays YO.out hB
               have o0 := cell_of_row _ z 0 _ _ _ yo
               have o1 := cell_of_row _ z 1 _ _ _ yo
               have o2 := cell_of_row _ z 2 _ _ _ yo
               have o3 := cell_of_row _ z 3 _ _ _ yo
               have o4 := cell_of_row _ z 4 _ _ _ yo
               have o5 := cell_of_row _ z 5 _ _ _ yo
               clear yo
               refine Or.inl ⟨(by have hg := getD_some i121; simp [Region.wanted, yielded, hg]), ?_⟩
               rintro _ rfl
               go_simp <;> with_reducible rfl
              refine relG_pure (i := 17) (o := ⟨some 125, _, _, _, _, _⟩) (v := ?v12) [(15, 123, 1), (16, 124, 0), (13, 121, 3)] [] rfl rfl (by kernel_rfl) (by kernel_rfl) (fun t w1 hB hf hbf => ?y12) ?n12
              case y12 =>
               simp only [DepF, List.getD_cons_zero, List.getD_cons_succ] at hf
               obtain ⟨⟨_, ⟨e123, i123⟩, rfl⟩, ⟨_, ⟨e124, i124⟩, rfl⟩, ⟨_, ⟨e121, i121⟩, rfl⟩, _⟩ := hf
               clear hbf
               have bw := BW.out.trans (hB.mono BW.out.size)
               have yo := boxStays YO.out hB
               have o0 := cell_of_row _ z 0 _ _ _ yo
               have o1 := cell_of_row _ z 1 _ _ _ yo
               have o2 := cell_of_row _ z 2 _ _ _ yo
               have o3 := cell_of_row _ z 3 _ _ _ yo
               have o4 := cell_of_row _ z 4 _ _ _ yo
               have o5 := cell_of_row _ z 5 _ _ _ yo
               clear yo
               refine Or.inl ⟨(by have hg := getD_some i121; simp [Region.wanted, yielded, hg]), ?_⟩
               rintro _ rfl
               go_simp <;> with_reducible rfl
              refine relG_pure (i := 18) (o := ⟨some 126, _, _, _, _, _⟩) (v := ?v13) [(13, 121, 4), (17, 125, 0)] [] rfl rfl (by kernel_rfl) (by kernel_rfl) (fun t w1 hB hf hbf => ?y13) ?n13
              case y13 =>
               simp only [DepF, List.getD_cons_zero, List.getD_cons_succ] at hf
               obtain ⟨⟨_, ⟨e121, i121⟩, rfl⟩, ⟨_, ⟨e125, i125⟩, rfl⟩, _⟩ := hf
               clear hbf
               have bw := BW.out.trans (hB.mono BW.out.size)
               have yo := boxStays YO.out hB
               have o0 := cell_of_row _ z 0 _ _ _ yo
               have o1 := cell_of_row _ z 1 _ _ _ yo
               have o2 := cell_of_row _ z 2 _ _ _ yo
               have o3 := cell_of_row _ z 3 _ _ _ yo
               have o4 := cell_of_row _ z 4 _ _ _ yo
               have o5 := cell_of_row _ z 5 _ _ _ yo
               clear yo
               refine Or.inl ⟨wanted_none rfl, ?_⟩
               rintro _ rfl
               go_simp <;> with_reducible rfl
              refine relG_pure (i := 19) (o := ⟨some 127, _, _, _, _, _⟩) (v := ?v14) [(18, 126, 0)] [] rfl rfl (by kernel_rfl) (by kernel_rfl) (fun t w1 hB hf hbf => ?y14) ?n14
              case y14 =>
               simp only [DepF, List.getD_cons_zero] at hf
               obtain ⟨⟨_, ⟨e126, i126⟩, rfl⟩, _⟩ := hf
               clear hbf
               have bw := BW.out.trans (hB.mono BW.out.size)
               have yo := boxStays YO.out hB
               have o0 := cell_of_row _ z 0 _ _ _ yo
               have o1 := cell_of_row _ z 1 _ _ _ yo
               have o2 := cell_of_row _ z 2 _ _ _ yo
               have o3 := cell_of_row _ z 3 _ _ _ yo
               have o4 := cell_of_row _ z 4 _ _ _ yo
               have o5 := cell_of_row _ z 5 _ _ _ yo
               clear yo
               refine Or.inl ⟨wanted_none rfl, ?_⟩
               rintro _ rfl
               go_simp <;> with_reducible rfl
              refine relG_pure (i := 20) (o := ⟨some 128, _, _, _, _, _⟩) (v := ?v15) [(19, 127, 0)] [8] rfl rfl (by kernel_rfl) (by kernel_rfl) (fun t w1 hB hf hbf => ?y15) ?n15
              case y15 =>
               simp only [DepF, List.getD_cons_zero] at hf
               simp only [BasF] at hbf
               obtain ⟨⟨_, ⟨e127, i127⟩, rfl⟩, _⟩ := hf
               obtain ⟨⟨b8, k8⟩, _⟩ := hbf
               have bw := BW.out.trans (hB.mono BW.out.size)
               have yo := boxStays YO.out hB
               have o0 := cell_of_row _ z 0 _ _ _ yo
               have o1 := cell_of_row _ z 1 _ _ _ yo
               have o2 := cell_of_row _ z 2 _ _ _ yo
               have o3 := cell_of_row _ z 3 _ _ _ yo
               have o4 := cell_of_row _ z 4 _ _ _ yo
               have o5 := cell_of_row _ z 5 _ _ _ yo
               clear yo
               refine Or.inl ⟨(by have hg := getD_some i127; simp [Region.wanted, yielded, hg]), ?_⟩
               rintro _ rfl
               go_simp <;> with_reducible rfl
              refine relG_call (i := 21) (o := ⟨some 129, _, _, _, _, _⟩) ((fun v _ => v = .string wd1)) [(20, 128, 0), (19, 127, 1)] [] rfl rfl (by kernel_rfl) (by kernel_rfl) ((fun _ _ _ h _ => h)) ?_ ?_
              · intro t w1 hB hf hbf K hK
                simp only [DepF, List.getD_cons_zero, List.getD_cons_succ] at hf
                obtain ⟨⟨_, ⟨e128, i128⟩, rfl⟩, ⟨_, ⟨e127, i127⟩, rfl⟩, _⟩ := hf
                clear hbf
                have bw := BW.out.trans (hB.mono BW.out.size)
                have yo := boxStays YO.out hB
                have o0 := cell_of_row _ z 0 _ _ _ yo
                have o1 := cell_of_row _ z 1 _ _ _ yo
                have o2 := cell_of_row _ z 2 _ _ _ yo
                have o3 := cell_of_row _ z 3 _ _ _ yo
                have o4 := cell_of_row _ z 4 _ _ _ yo
                have o5 := cell_of_row _ z 5 _ _ _ yo
                clear yo
                refine ⟨(by have hg := getD_some i127; simp [Region.wanted, yielded, hg]), ?_⟩
                go_simp
                refine (kn_DoWord d w1).mono ?_
                rintro e w2 ⟨rfl, hb⟩
                exact hK.out _ w2 (by rw [WDE.out]) hb
              refine relG_pure (i := 22) (o := ⟨some 130, _, _, _, _, _⟩) (v := ?v16) [(19, 127, 2)] [11] rfl rfl (by kernel_rfl) (by kernel_rfl) (fun t w1 hB hf hbf => ?y16) ?n16
              case y16 =>
               simp only [DepF, List.getD_cons_zero, List.getD_cons_succ] at hf
               simp only [BasF] at hbf
               obtain ⟨⟨_, ⟨e127, i127⟩, rfl⟩, _⟩ := hf
               obtain ⟨⟨b11, k11⟩, _⟩ := hbf
               have bw := BW.out.trans (hB.mono BW.out.size)
               have yo := boxStays YO.out hB
               have o0 := cell_of_row _ z 0 _ _ _ yo
               have o1 := cell_of_row _ z 1 _ _ _ yo
               have o2 := cell_of_row _ z 2 _ _ _ yo
               have o3 := cell_of_row _ z 3 _ _ _ yo
               have o4 := cell_of_row _ z 4 _ _ _ yo
               have o5 := cell_of_row _ z 5 _ _ _ yo
               clear yo
               refine Or.inl ⟨(by have hg := getD_some i127; simp [Region.wanted, yielded, hg]), ?_⟩
               rintro _ rfl
               go_simp <;> with_reducible rfl
              refine relG_pure (i := 23) (o := ⟨some 131, _, _, _, _, _⟩) (v := ?v17) [(21, 129, 1), (22, 130, 0), (19, 127, 3)] [] rfl rfl (by kernel_rfl) (by kernel_rfl) (fun t w1 hB hf hbf => ?y17) ?n17
              case y17 =>
               simp only [DepF, List.getD_cons_zero, List.getD_cons_succ] at hf
               obtain ⟨⟨_, ⟨e129, i129⟩, rfl⟩, ⟨_, ⟨e130, i130⟩, rfl⟩, ⟨_, ⟨e127, i127⟩, rfl⟩, _⟩ := hf
               clear hbf
               have bw := BW.out.trans (hB.mono BW.out.size)
               have yo := boxStays YO.out hB
               have o0 := cell_of_row _ z 0 _ _ _ yo
               have o1 := cell_of_row _ z 1 _ _ _ yo
               have o2 := cell_of_row _ z 2 _ _ _ yo
               have o3 := cell_of_row _ z 3 _ _ _ yo
               have o4 := cell_of_row _ z 4 _ _ _ yo
               have o5 := cell_of_row _ z 5 _ _ _ yo
               clear yo
               refine Or.inl ⟨(by have hg := getD_some i127; simp [Region.wanted, yielded, hg]), ?_⟩
               rintro _ rfl
               go_simp <;> with_reducible rfl
              refine relG_pure (i := 24) (o := ⟨some 132, _, _, _, _, _⟩) (v := ?v18) [(19, 127, 4), (23, 131, 0)] [] rfl rfl (by kernel_rfl) (by kernel_rfl) (fun t w1 hB hf hbf => ?y18) ?n18
              case y18 =>
               simp only [DepF, List.getD_cons_zero, List.getD_cons_succ] at hf
               obtain ⟨⟨_, ⟨e127, i127⟩, rfl⟩, ⟨_, ⟨e131, i131⟩, rfl⟩, _⟩ := hf
               clear hbf
               have bw := BW.out.trans (hB.mono BW.out.size)
               have yo := boxStays YO.out hB
               have o0 := cell_of_row _ z 0 _ _ _ yo
               have o1 := cell_of_row _ z 1 _ _ _ yo
               have o2 := cell_of_row _ z 2 _ _ _ yo
               have o3 := cell_of_row _ z 3 _ _ _ yo
               have o4 := cell_of_row _ z 4 _ _ _ yo
               have o5 := cell_of_row _ z 5 _ _ _ yo
               clear yo
               refine Or.inl ⟨wanted_none rfl, ?_⟩
               rintro _ rfl
               go_simp <;> with_reducible rfl
              refine relG_pure (i := 25) (o := ⟨some 133, _, _, _, _, _⟩) (v := ?v19) [(24, 132, 0)] [] rfl rfl (by kernel_rfl) (by kernel_rfl) (fun t w1 hB hf hbf => ?y19) ?n19
              case y19 =>
               simp only [DepF, List.getD_cons_zero] at hf
               obtain ⟨⟨_, ⟨e132, i132⟩, rfl⟩, _⟩ := hf
               clear hbf
               have bw := BW.out.trans (hB.mono BW.out.size)
               have yo := boxStays YO.out hB
               have o0 := cell_of_row _ z 0 _ _ _ yo
               have o1 := cell_of_row _ z 1 _ _ _ yo
               have o2 := cell_of_row _ z 2 _ _ _ yo
               have o3 := cell_of_row _ z 3 _ _ _ yo
               have o4 := cell_of_row _ z 4 _ _ _ yo
               have o5 := cell_of_row _ z 5 _ _ _ yo
               clear yo
               refine Or.inl ⟨wanted_none rfl, ?_⟩
               rintro _ rfl
               go_simp <;> with_reducible rfl
              refine relG_pure (i := 26) (o := ⟨some 134, _, _, _, _, _⟩) (v := ?v20) [(25, 133, 0)] [8] rfl rfl (by kernel_rfl) (by kernel_rfl) (fun t w1 hB hf hbf => ?y20) ?n20
              case y20 =>
               simp only [DepF, List.getD_cons_zero] at hf
               simp only [BasF] at hbf
               obtain ⟨⟨_, ⟨e133, i133⟩, rfl⟩, _⟩ := hf
               obtain ⟨⟨b8, k8⟩, _⟩ := hbf
               have bw := BW.out.trans (hB.mono BW.out.size)
               have yo := boxStays YO.out hB
               have o0 := cell_of_row _ z 0 _ _ _ yo
               have o1 := cell_of_row _ z 1 _ _ _ yo
               have o2 := cell_of_row _ z 2 _ _ _ yo
               have o3 := cell_of_row _ z 3 _ _ _ yo
               have o4 := cell_of_row _ z 4 _ _ _ yo
               have o5 := cell_of_row _ z 5 _ _ _ yo
               clear yo
               refine Or.inl ⟨(by have hg := getD_some i133; simp [Region.wanted, yielded, hg]), ?_⟩
               rintro _ rfl
               go_simp <;> with_reducible rfl
              refine relG_call (i := 27) (o := ⟨some 135, _, _, _, _, _⟩) ((fun v _ => v = .int .i64 kk)) [(26, 134, 0), (25, 133, 1)] [] rfl rfl (by kernel_rfl) (by kernel_rfl) ((fun _ _ _ h _ => h)) ?_ ?_
              · intro t w1 hB hf hbf K hK
                simp only [DepF, List.getD_cons_zero, List.getD_cons_succ] at hf
                obtain ⟨⟨_, ⟨e134, i134⟩, rfl⟩, ⟨_, ⟨e133, i133⟩, rfl⟩, _⟩ := hf
                clear hbf
                have bw := BW.out.trans (hB.mono BW.out.size)
                have yo := boxStays YO.out hB
                have o0 := cell_of_row _ z 0 _ _ _ yo
                have o1 := cell_of_row _ z 1 _ _ _ yo
                have o2 := cell_of_row _ z 2 _ _ _ yo
                have o3 := cell_of_row _ z 3 _ _ _ yo
                have o4 := cell_of_row _ z 4 _ _ _ yo
                have o5 := cell_of_row _ z 5 _ _ _ yo
                clear yo
                refine ⟨(by have hg := getD_some i133; simp [Region.wanted, yielded, hg]), ?_⟩
                go_simp
                refine (kn_OfB d w1).mono ?_
                rintro e w2 ⟨rfl, hb⟩
                exact hK.out _ w2 (by rw [KE.out]) hb
              refine relG_pure (i := 28) (o := ⟨some 136, _, _, _, _, _⟩) (v := ?v21) [(25, 133, 2)] [8] rfl rfl (by kernel_rfl) (by kernel_rfl) (fun t w1 hB hf hbf => ?y21) ?n21
              case y21 =>
               simp only [DepF, List.getD_cons_zero, List.getD_cons_succ] at hf
               simp only [BasF] at hbf
               obtain ⟨⟨_, ⟨e133, i133⟩, rfl⟩, _⟩ := hf
               obtain ⟨⟨b8, k8⟩, _⟩ := hbf
               have bw := BW.out.trans (hB.mono BW.out.size)
               have yo := boxStays YO.out hB
               have o0 := cell_of_row _ z 0 _ _ _ yo
               have o1 := cell_of_row _ z 1 _ _ _ yo
               have o2 := cell_of_row _ z 2 _ _ _ yo
               have o3 := cell_of_row _ z 3 _ _ _ yo
               have o4 := cell_of_row _ z 4 _ _ _ yo
               have o5 := cell_of_row _ z 5 _ _ _ yo
               clear yo
               refine Or.inl ⟨(by have hg := getD_some i133; simp [Region.wanted, yielded, hg]), ?_⟩
               rintro _ rfl
               go_simp <;> with_reducible rfl
              refine relG_call (i := 29) (o := ⟨some 137, _, _, _, _, _⟩) ((fun v _ => v = .int .i64 kk)) [(28, 136, 0), (25, 133, 3)] [] rfl rfl (by kernel_rfl) (by kernel_rfl) ((fun _ _ _ h _ => h)) ?_ ?_
              · intro t w1 hB hf hbf K hK
                simp only [DepF, List.getD_cons_zero, List.getD_cons_succ] at hf
                obtain ⟨⟨_, ⟨e136, i136⟩, rfl⟩, ⟨_, ⟨e133, i133⟩, rfl⟩, _⟩ := hf
                clear hbf
                have bw := BW.out.trans (hB.mono BW.out.size)
                have yo := boxStays YO.out hB
                have o0 := cell_of_row _ z 0 _ _ _ yo
                have o1 := cell_of_row _ z 1 _ _ _ yo
                have o2 := cell_of_row _ z 2 _ _ _ yo
                have o3 := cell_of_row _ z 3 _ _ _ yo
                have o4 := cell_of_row _ z 4 _ _ _ yo
                have o5 := cell_of_row _ z 5 _ _ _ yo
                clear yo
                refine ⟨(by have hg := getD_some i133; simp [Region.wanted, yielded, hg]), ?_⟩
                go_simp
                refine (kr_OfB d w1).mono ?_
                rintro e w2 ⟨rfl, hb⟩
                exact hK.out _ w2 (by rw [KE.out]) hb
              refine relG_pure (i := 30) (o := ⟨some 138, _, _, _, _, _⟩) (v := ?v22) [(27, 135, 2), (29, 137, 0), (25, 133, 4)] [] rfl rfl (by kernel_rfl) (by kernel_rfl) (fun t w1 hB hf hbf => ?y22) ?n22
              case y22 =>
               simp only [DepF, List.getD_cons_zero, List.getD_cons_succ] at hf
               obtain ⟨⟨_, ⟨e135, i135⟩, rfl⟩, ⟨_, ⟨e137, i137⟩, rfl⟩, ⟨_, ⟨e133, i133⟩, rfl⟩, _⟩ := hf
               clear hbf
               have bw := BW.out.trans (hB.mono BW.out.size)
               have yo := boxStays YO.out hB
               have o0 := cell_of_row _ z 0 _ _ _ yo
               have o1 := cell_of_row _ z 1 _ _ _ yo
               have o2 := cell_of_row _ z 2 _ _ _ yo
               have o3 := cell_of_row _ z 3 _ _ _ yo
               have o4 := cell_of_row _ z 4 _ _ _ yo
               have o5 := cell_of_row _ z 5 _ _ _ yo
               clear yo
               refine Or.inl ⟨(by have hg := getD_some i133; simp [Region.wanted, yielded, hg]), ?_⟩
               rintro _ rfl
               go_simp <;> with_reducible rfl
              refine relG_pure (i := 31) (o := ⟨some 139, _, _, _, _, _⟩) (v := ?v23) [(25, 133, 5), (30, 138, 0)] [] rfl rfl (by kernel_rfl) (by kernel_rfl) (fun t w1 hB hf hbf => ?y23) ?n23
              case y23 =>
               simp only [DepF, List.getD_cons_zero, List.getD_cons_succ] at hf
               obtain ⟨⟨_, ⟨e133, i133⟩, rfl⟩, ⟨_, ⟨e138, i138⟩, rfl⟩, _⟩ := hf
               clear hbf
               have bw := BW.out.trans (hB.mono BW.out.size)
               have yo := boxStays YO.out hB
               have o0 := cell_of_row _ z 0 _ _ _ yo
               have o1 := cell_of_row _ z 1 _ _ _ yo
               have o2 := cell_of_row _ z 2 _ _ _ yo
               have o3 := cell_of_row _ z 3 _ _ _ yo
               have o4 := cell_of_row _ z 4 _ _ _ yo
               have o5 := cell_of_row _ z 5 _ _ _ yo
               clear yo
               refine Or.inl ⟨wanted_none rfl, ?_⟩
               rintro _ rfl
               go_simp <;> with_reducible rfl
              refine relG_pure (i := 32) (o := ⟨some 140, _, _, _, _, _⟩) (v := ?v24) [(31, 139, 0)] [] rfl rfl (by kernel_rfl) (by kernel_rfl) (fun t w1 hB hf hbf => ?y24) ?n24
              case y24 =>
               simp only [DepF, List.getD_cons_zero] at hf
               obtain ⟨⟨_, ⟨e139, i139⟩, rfl⟩, _⟩ := hf
               clear hbf
               have bw := BW.out.trans (hB.mono BW.out.size)
               have yo := boxStays YO.out hB
               have o0 := cell_of_row _ z 0 _ _ _ yo
               have o1 := cell_of_row _ z 1 _ _ _ yo
               have o2 := cell_of_row _ z 2 _ _ _ yo
               have o3 := cell_of_row _ z 3 _ _ _ yo
               have o4 := cell_of_row _ z 4 _ _ _ yo
               have o5 := cell_of_row _ z 5 _ _ _ yo
               clear yo
               refine Or.inl ⟨wanted_none rfl, ?_⟩
               rintro _ rfl
               go_simp <;> with_reducible rfl
              refine relG_pure (i := 33) (o := ⟨some 141, _, _, _, _, _⟩) (v := ?v25) [(32, 140, 0)] [16] rfl rfl (by kernel_rfl) (by kernel_rfl) (fun t w1 hB hf hbf => ?y25) ?n25
              case y25 =>
               simp only [DepF, List.getD_cons_zero] at hf
               simp only [BasF] at hbf
               obtain ⟨⟨_, ⟨e140, i140⟩, rfl⟩, _⟩ := hf
               obtain ⟨⟨b16, k16⟩, _⟩ := hbf
               have bw := BW.out.trans (hB.mono BW.out.size)
               have yo := boxStays YO.out hB
               have o0 := cell_of_row _ z 0 _ _ _ yo
               have o1 := cell_of_row _ z 1 _ _ _ yo
               have o2 := cell_of_row _ z 2 _ _ _ yo
               have o3 := cell_of_row _ z 3 _ _ _ yo
               have o4 := cell_of_row _ z 4 _ _ _ yo
               have o5 := cell_of_row _ z 5 _ _ _ yo
               clear yo
               refine Or.inl ⟨(by have hg := getD_some i140; simp [Region.wanted, yielded, hg]), ?_⟩
               rintro _ rfl
               go_simp <;> with_reducible rfl
              refine relG_pure (i := 34) (o := ⟨some 142, _, _, _, _, _⟩) (v := ?v26) [(32, 140, 1)] [12] rfl rfl (by kernel_rfl) (by kernel_rfl) (fun t w1 hB hf hbf => ?y26) ?n26
              case y26 =>
               simp only [DepF, List.getD_cons_zero, List.getD_cons_succ] at hf
               simp only [BasF] at hbf
               obtain ⟨⟨_, ⟨e140, i140⟩, rfl⟩, _⟩ := hf
               obtain ⟨⟨b12, k12⟩, _⟩ := hbf
               have bw := BW.out.trans (hB.mono BW.out.size)
               have yo := boxStays YO.out hB
               have o0 := cell_of_row _ z 0 _ _ _ yo
               have o1 := cell_of_row _ z 1 _ _ _ yo
               have o2 := cell_of_row _ z 2 _ _ _ yo
               have o3 := cell_of_row _ z 3 _ _ _ yo
               have o4 := cell_of_row _ z 4 _ _ _ yo
               have o5 := cell_of_row _ z 5 _ _ _ yo
               clear yo
               refine Or.inl ⟨(by have hg := getD_some i140; simp [Region.wanted, yielded, hg]), ?_⟩
               rintro _ rfl
               go_simp <;> with_reducible rfl
              refine relG_pure (i := 35) (o := ⟨some 143, _, _, _, _, _⟩) (v := ?v27) [(33, 141, 1), (34, 142, 0), (32, 140, 2)] [] rfl rfl (by kernel_rfl) (by kernel_rfl) (fun t w1 hB hf hbf => ?y27) ?n27
              case y27 =>
               simp only [DepF, List.getD_cons_zero, List.getD_cons_succ] at hf
               obtain ⟨⟨_, ⟨e141, i141⟩, rfl⟩, ⟨_, ⟨e142, i142⟩, rfl⟩, ⟨_, ⟨e140, i140⟩, rfl⟩, _⟩ := hf
               clear hbf
               have bw := BW.out.trans (hB.mono BW.out.size)
               have yo := boxStays YO.out hB
               have o0 := cell_of_row _ z 0 _ _ _ yo
               have o1 := cell_of_row _ z 1 _ _ _ yo
               have o2 := cell_of_row _ z 2 _ _ _ yo
               have o3 := cell_of_row _ z 3 _ _ _ yo
               have o4 := cell_of_row _ z 4 _ _ _ yo
               have o5 := cell_of_row _ z 5 _ _ _ yo
               clear yo
               refine Or.inl ⟨(by have hg := getD_some i140; simp [Region.wanted, yielded, hg]), ?_⟩
               rintro _ rfl
               go_simp <;> with_reducible rfl
              refine relG_pure (i := 36) (o := ⟨some 144, _, _, _, _, _⟩) (v := ?v28) [(32, 140, 3), (35, 143, 0)] [] rfl rfl (by kernel_rfl) (by kernel_rfl) (fun t w1 hB hf hbf => ?y28) ?n28
              case y28 =>
               simp only [DepF, List.getD_cons_zero, List.getD_cons_succ] at hf
               obtain ⟨⟨_, ⟨e140, i140⟩, rfl⟩, ⟨_, ⟨e143, i143⟩, rfl⟩, _⟩ := hf
               clear hbf
               have bw := BW.out.trans (hB.mono BW.out.size)
               have yo := boxStays YO.out hB
               have o0 := cell_of_row _ z 0 _ _ _ yo
               have o1 := cell_of_row _ z 1 _ _ _ yo
               have o2 := cell_of_row _ z 2 _ _ _ yo
               have o3 := cell_of_row _ z 3 _ _ _ yo
               have o4 := cell_of_row _ z 4 _ _ _ yo
               have o5 := cell_of_row _ z 5 _ _ _ yo
               clear yo
               refine Or.inl ⟨wanted_none rfl, ?_⟩
               rintro _ rfl
               go_simp <;> with_reducible rfl
              refine relG_pure (i := 37) (o := ⟨some 145, _, _, _, _, _⟩) (v := ?v29) [(36, 144, 0)] [] rfl rfl (by kernel_rfl) (by kernel_rfl) (fun t w1 hB hf hbf => ?y29) ?n29
              case y29 =>
               simp only [DepF, List.getD_cons_zero] at hf
               obtain ⟨⟨_, ⟨e144, i144⟩, rfl⟩, _⟩ := hf
               clear hbf
               have bw := BW.out.trans (hB.mono BW.out.size)
               have yo := boxStays YO.out hB
               have o0 := cell_of_row _ z 0 _ _ _ yo
               have o1 := cell_of_row _ z 1 _ _ _ yo
               have o2 := cell_of_row _ z 2 _ _ _ yo
               have o3 := cell_of_row _ z 3 _ _ _ yo
               have o4 := cell_of_row _ z 4 _ _ _ yo
               have o5 := cell_of_row _ z 5 _ _ _ yo
               clear yo
               refine Or.inl ⟨wanted_none rfl, ?_⟩
               rintro _ rfl
               go_simp <;> with_reducible rfl
              refine relG_pure (i := 38) (o := ⟨some 146, _, _, _, _, _⟩) (v := ?v30) [(37, 145, 0)] [17] rfl rfl (by kernel_rfl) (by kernel_rfl) (fun t w1 hB hf hbf => ?y30) ?n30
              case y30 =>
               simp only [DepF, List.getD_cons_zero] at hf
               simp only [BasF] at hbf
               obtain ⟨⟨_, ⟨e145, i145⟩, rfl⟩, _⟩ := hf
               obtain ⟨⟨b17, k17⟩, _⟩ := hbf
               have bw := BW.out.trans (hB.mono BW.out.size)
               have yo := boxStays YO.out hB
               have o0 := cell_of_row _ z 0 _ _ _ yo
               have o1 := cell_of_row _ z 1 _ _ _ yo
               have o2 := cell_of_row _ z 2 _ _ _ yo
               have o3 := cell_of_row _ z 3 _ _ _ yo
               have o4 := cell_of_row _ z 4 _ _ _ yo
               have o5 := cell_of_row _ z 5 _ _ _ yo
               clear yo
               refine Or.inl ⟨(by have hg := getD_some i145; simp [Region.wanted, yielded, hg]), ?_⟩
               rintro _ rfl
               go_simp <;> with_reducible rfl
              refine relG_pure (i := 39) (o := ⟨some 147, _, _, _, _, _⟩) (v := ?v31) [(37, 145, 1)] [12] rfl rfl (by kernel_rfl) (by kernel_rfl) (fun t w1 hB hf hbf => ?y31) ?n31
              case y31 =>
               simp only [DepF, List.getD_cons_zero, List.getD_cons_succ] at hf
               simp only [BasF] at hbf
               obtain ⟨⟨_, ⟨e145, i145⟩, rfl⟩, _⟩ := hf
               obtain ⟨⟨b12, k12⟩, _⟩ := hbf
               have bw := BW.out.trans (hB.mono BW.out.size)
               have yo := boxStays YO.out hB
               have o0 := cell_of_row _ z 0 _ _ _ yo
               have o1 := cell_of_row _ z 1 _ _ _ yo
               have o2 := cell_of_row _ z 2 _ _ _ yo
               have o3 := cell_of_row _ z 3 _ _ _ yo
               have o4 := cell_of_row _ z 4 _ _ _ yo
               have o5 := cell_of_row _ z 5 _ _ _ yo
               clear yo
               refine Or.inl ⟨(by have hg := getD_some i145; simp [Region.wanted, yielded, hg]), ?_⟩
               rintro _ rfl
               go_simp <;> with_reducible rfl
              refine relG_pure (i := 40) (o := ⟨some 148, _, _, _, _, _⟩) (v := ?v32) [(39, 147, 0), (37, 145, 2)] [] rfl rfl (by kernel_rfl) (by kernel_rfl) (fun t w1 hB hf hbf => ?y32) ?n32
              case y32 =>
               simp only [DepF, List.getD_cons_zero, List.getD_cons_succ] at hf
               obtain ⟨⟨_, ⟨e147, i147⟩, rfl⟩, ⟨_, ⟨e145, i145⟩, rfl⟩, _⟩ := hf
               clear hbf
               have bw := BW.out.trans (hB.mono BW.out.size)
               have yo := boxStays YO.out hB
               have o0 := cell_of_row _ z 0 _ _ _ yo
               have o1 := cell_of_row _ z 1 _ _ _ yo
               have o2 := cell_of_row _ z 2 _ _ _ yo
               have o3 := cell_of_row _ z 3 _ _ _ yo
               have o4 := cell_of_row _ z 4 _ _ _ yo
               have o5 := cell_of_row _ z 5 _ _ _ yo
               clear yo
               refine Or.inl ⟨(by have hg := getD_some i145; simp [Region.wanted, yielded, hg]), ?_⟩
               rintro _ rfl
               go_simp <;> with_reducible rfl
              refine relG_pure (i := 41) (o := ⟨some 149, _, _, _, _, _⟩) (v := ?v33) [(38, 146, 2), (40, 148, 0), (37, 145, 3)] [] rfl rfl (by kernel_rfl) (by kernel_rfl) (fun t w1 hB hf hbf => ?y33) ?n33
              case y33 =>
               simp only [DepF, List.getD_cons_zero, List.getD_cons_succ] at hf
               obtain ⟨⟨_, ⟨e146, i146⟩, rfl⟩, ⟨_, ⟨e148, i148⟩, rfl⟩, ⟨_, ⟨e145, i145⟩, rfl⟩, _⟩ := hf
               clear hbf
               have bw := BW.out.trans (hB.mono BW.out.size)
               have yo := boxStays YO.out hB
               have o0 := cell_of_row _ z 0 _ _ _ yo
               have o1 := cell_of_row _ z 1 _ _ _ yo
               have o2 := cell_of_row _ z 2 _ _ _ yo
               have o3 := cell_of_row _ z 3 _ _ _ yo
               have o4 := cell_of_row _ z 4 _ _ _ yo
               have o5 := cell_of_row _ z 5 _ _ _ yo
               clear yo
               refine Or.inl ⟨(by have hg := getD_some i145; simp [Region.wanted, yielded, hg]), ?_⟩
               rintro _ rfl
               go_simp <;> with_reducible rfl
              refine relG_pure (i := 42) (o := ⟨some 150, _, _, _, _, _⟩) (v := ?v34) [(37, 145, 4), (41, 149, 0)] [] rfl rfl (by kernel_rfl) (by kernel_rfl) (fun t w1 hB hf hbf => ?y34) ?n34
              case y34 =>
               simp only [DepF, List.getD_cons_zero, List.getD_cons_succ] at hf
               obtain ⟨⟨_, ⟨e145, i145⟩, rfl⟩, ⟨_, ⟨e149, i149⟩, rfl⟩, _⟩ := hf
               clear hbf
               have bw := BW.out.trans (hB.mono BW.out.size)
               have yo := boxStays YO.out hB
               have o0 := cell_of_row _ z 0 _ _ _ yo
               have o1 := cell_of_row _ z 1 _ _ _ yo
               have o2 := cell_of_row _ z 2 _ _ _ yo
               have o3 := cell_of_row _ z 3 _ _ _ yo
               have o4 := cell_of_row _ z 4 _ _ _ yo
               have o5 := cell_of_row _ z 5 _ _ _ yo
               clear yo
               refine Or.inl ⟨wanted_none rfl, ?_⟩
               rintro _ rfl
               go_simp <;> with_reducible rfl
              refine relG_pure (i := 43) (o := ⟨some 151, _, _, _, _, _⟩) (v := ?v35) [(42, 150, 0)] [] rfl rfl (by kernel_rfl) (by kernel_rfl) (fun t w1 hB hf hbf => ?y35) ?n35
              case y35 =>
               simp only [DepF, List.getD_cons_zero] at hf
               obtain ⟨⟨_, ⟨e150, i150⟩, rfl⟩, _⟩ := hf
               clear hbf
               have bw := BW.out.trans (hB.mono BW.out.size)
               have yo := boxStays YO.out hB
               have o0 := cell_of_row _ z 0 _ _ _ yo
               have o1 := cell_of_row _ z 1 _ _ _ yo
               have o2 := cell_of_row _ z 2 _ _ _ yo
               have o3 := cell_of_row _ z 3 _ _ _ yo
               have o4 := cell_of_row _ z 4 _ _ _ yo
               have o5 := cell_of_row _ z 5 _ _ _ yo
               clear yo
               refine Or.inl ⟨wanted_none rfl, ?_⟩
               rintro _ rfl
               go_simp <;> with_reducible rfl
              refine relG_pure (i := 44) (o := ⟨some 152, _, _, _, _, _⟩) (v := ?v36) [(43, 151, 0)] [18] rfl rfl (by kernel_rfl) (by kernel_rfl) (fun t w1 hB hf hbf => ?y36) ?n36
              case y36 =>
               simp only [DepF, List.getD_cons_zero] at hf
               simp only [BasF] at hbf
               obtain ⟨⟨_, ⟨e151, i151⟩, rfl⟩, _⟩ := hf
               obtain ⟨⟨b18, k18⟩, _⟩ := hbf
               have bw := BW.out.trans (hB.mono BW.out.size)
               have yo := boxStays YO.out hB
               have o0 := cell_of_row _ z 0 _ _ _ yo
               have o1 := cell_of_row _ z 1 _ _ _ yo
               have o2 := cell_of_row _ z 2 _ _ _ yo
               have o3 := cell_of_row _ z 3 _ _ _ yo
               have o4 := cell_of_row _ z 4 _ _ _ yo
               have o5 := cell_of_row _ z 5 _ _ _ yo
               clear yo
               refine Or.inl ⟨(by have hg := getD_some i151; simp [Region.wanted, yielded, hg]), ?_⟩
               rintro _ rfl
               go_simp <;> with_reducible rfl
              refine relG_pure (i := 45) (o := ⟨some 153, _, _, _, _, _⟩) (v := ?v37) [(43, 151, 1)] [13] rfl rfl (by kernel_rfl) (by kernel_rfl) (fun t w1 hB hf hbf => ?y37) ?n37
              case y37 =>
               simp only [DepF, List.getD_cons_zero, List.getD_cons_succ] at hf
               simp only [BasF] at hbf
               obtain ⟨⟨_, ⟨e151, i151⟩, rfl⟩, _⟩ := hf
               obtain ⟨⟨b13, k13⟩, _⟩ := hbf
               have bw := BW.out.trans (hB.mono BW.out.size)
               have yo := boxStays YO.out hB
               have o0 := cell_of_row _ z 0 _ _ _ yo
               have o1 := cell_of_row _ z 1 _ _ _ yo
               have o2 := cell_of_row _ z 2 _ _ _ yo
               have o3 := cell_of_row _ z 3 _ _ _ yo
               have o4 := cell_of_row _ z 4 _ _ _ yo
               have o5 := cell_of_row _ z 5 _ _ _ yo
               clear yo
               refine Or.inl ⟨(by have hg := getD_some i151; simp [Region.wanted, yielded, hg]), ?_⟩
               rintro _ rfl
               go_simp <;> with_reducible rfl
              refine relG_pure (i := 46) (o := ⟨some 154, _, _, _, _, _⟩) (v := ?v38) [(44, 152, 1), (45, 153, 0), (43, 151, 2)] [] rfl rfl (by kernel_rfl) (by kernel_rfl) (fun t w1 hB hf hbf => ?y38) ?n38
              case y38 =>
               simp only [DepF, List.getD_cons_zero, List.getD_cons_succ] at hf
               obtain ⟨⟨_, ⟨e152, i152⟩, rfl⟩, ⟨_, ⟨e153, i153⟩, rfl⟩, ⟨_, ⟨e151, i151⟩, rfl⟩, _⟩ := hf
               clear hbf
               have bw := BW.out.trans (hB.mono BW.out.size)
               have yo := boxStays YO.out hB
               have o0 := cell_of_row _ z 0 _ _ _ yo
               have o1 := cell_of_row _ z 1 _ _ _ yo
               have o2 := cell_of_row _ z 2 _ _ _ yo
               have o3 := cell_of_row _ z 3 _ _ _ yo
               have o4 := cell_of_row _ z 4 _ _ _ yo
               have o5 := cell_of_row _ z 5 _ _ _ yo
               clear yo
               refine Or.inl ⟨(by have hg := getD_some i151; simp [Region.wanted, yielded, hg]), ?_⟩
               rintro _ rfl
               go_simp <;> with_reducible rfl
              refine relG_pure (i := 47) (o := ⟨some 155, _, _, _, _, _⟩) (v := ?v39) [(43, 151, 3), (46, 154, 0)] [] rfl rfl (by kernel_rfl) (by kernel_rfl) (fun t w1 hB hf hbf => ?y39) ?n39
              case y39 =>
               simp only [DepF, List.getD_cons_zero, List.getD_cons_succ] at hf
               obtain ⟨⟨_, ⟨e151, i151⟩, rfl⟩, ⟨_, ⟨e154, i154⟩, rfl⟩, _⟩ := hf
               clear hbf
               have bw := BW.out.trans (hB.mono BW.out.size)
               have yo := boxStays YO.out hB
               have o0 := cell_of_row _ z 0 _ _ _ yo
               have o1 := cell_of_row _ z 1 _ _ _ yo
               have o2 := cell_of_row _ z 2 _ _ _ yo
               have o3 := cell_of_row _ z 3 _ _ _ yo
               have o4 := cell_of_row _ z 4 _ _ _ yo
               have o5 := cell_of_row _ z 5 _ _ _ yo
               clear yo
               refine Or.inl ⟨wanted_none rfl, ?_⟩
               rintro _ rfl
               go_simp <;> with_reducible rfl
              refine relG_pure (i := 48) (o := ⟨some 156, _, _, _, _, _⟩) (v := ?v40) [(47, 155, 0)] [] rfl rfl (by kernel_rfl) (by kernel_rfl) (fun t w1 hB hf hbf => ?y40) ?n40
              case y40 =>
               simp only [DepF, List.getD_cons_zero] at hf
               obtain ⟨⟨_, ⟨e155, i155⟩, rfl⟩, _⟩ := hf
               clear hbf
               have bw := BW.out.trans (hB.mono BW.out.size)
               have yo := boxStays YO.out hB
               have o0 := cell_of_row _ z 0 _ _ _ yo
               have o1 := cell_of_row _ z 1 _ _ _ yo
               have o2 := cell_of_row _ z 2 _ _ _ yo
               have o3 := cell_of_row _ z 3 _ _ _ yo
               have o4 := cell_of_row _ z 4 _ _ _ yo
               have o5 := cell_of_row _ z 5 _ _ _ yo
               clear yo
               refine Or.inl ⟨wanted_none rfl, ?_⟩
               rintro _ rfl
               go_simp <;> with_reducible rfl
              refine relG_pure (i := 49) (o := ⟨some 157, _, _, _, _, _⟩) (v := ?v41) [(48, 156, 0)] [19] rfl rfl (by kernel_rfl) (by kernel_rfl) (fun t w1 hB hf hbf => ?y41) ?n41
              case y41 =>
               simp only [DepF, List.getD_cons_zero] at hf
               simp only [BasF] at hbf
               obtain ⟨⟨_, ⟨e156, i156⟩, rfl⟩, _⟩ := hf
               obtain ⟨⟨b19, k19⟩, _⟩ := hbf
               have bw := BW.out.trans (hB.mono BW.out.size)
               have yo := boxStays YO.out hB
               have o0 := cell_of_row _ z 0 _ _ _ yo
               have o1 := cell_of_row _ z 1 _ _ _ yo
               have o2 := cell_of_row _ z 2 _ _ _ yo
               have o3 := cell_of_row _ z 3 _ _ _ yo
               have o4 := cell_of_row _ z 4 _ _ _ yo
               have o5 := cell_of_row _ z 5 _ _ _ yo
               clear yo
               refine Or.inl ⟨(by have hg := getD_some i156; simp [Region.wanted, yielded, hg]), ?_⟩
               rintro _ rfl
               go_simp <;> with_reducible rfl
              refine relG_pure (i := 50) (o := ⟨some 158, _, _, _, _, _⟩) (v := ?v42) [(48, 156, 1)] [13] rfl rfl (by kernel_rfl) (by kernel_rfl) (fun t w1 hB hf hbf => ?y42) ?n42
              case y42 =>
               simp only [DepF, List.getD_cons_zero, List.getD_cons_succ] at hf
               simp only [BasF] at hbf
               obtain ⟨⟨_, ⟨e156, i156⟩, rfl⟩, _⟩ := hf
               obtain ⟨⟨b13, k13⟩, _⟩ := hbf
               have bw := BW.out.trans (hB.mono BW.out.size)
               have yo := boxStays YO.out hB
               have o0 := cell_of_row _ z 0 _ _ _ yo
               have o1 := cell_of_row _ z 1 _ _ _ yo
               have o2 := cell_of_row _ z 2 _ _ _ yo
               have o3 := cell_of_row _ z 3 _ _ _ yo
               have o4 := cell_of_row _ z 4 _ _ _ yo
               have o5 := cell_of_row _ z 5 _ _ _ yo
               clear yo
               refine Or.inl ⟨(by have hg := getD_some i156; simp [Region.wanted, yielded, hg]), ?_⟩
               rintro _ rfl
               go_simp <;> with_reducible rfl
              refine relG_pure (i := 51) (o := ⟨some 159, _, _, _, _, _⟩) (v := ?v43) [(50, 158, 0), (48, 156, 2)] [] rfl rfl (by kernel_rfl) (by kernel_rfl) (fun t w1 hB hf hbf => ?y43) ?n43
              case y43 =>
               simp only [DepF, List.getD_cons_zero, List.getD_cons_succ] at hf
               obtain ⟨⟨_, ⟨e158, i158⟩, rfl⟩, ⟨_, ⟨e156, i156⟩, rfl⟩, _⟩ := hf
               clear hbf
               have bw := BW.out.trans (hB.mono BW.out.size)
               have yo := boxStays YO.out hB
               have o0 := cell_of_row _ z 0 _ _ _ yo
               have o1 := cell_of_row _ z 1 _ _ _ yo
               have o2 := cell_of_row _ z 2 _ _ _ yo
               have o3 := cell_of_row _ z 3 _ _ _ yo
               have o4 := cell_of_row _ z 4 _ _ _ yo
               have o5 := cell_of_row _ z 5 _ _ _ yo
               clear yo
               refine Or.inl ⟨(by have hg := getD_some i156; simp [Region.wanted, yielded, hg]), ?_⟩
               rintro _ rfl
               go_simp <;> with_reducible rfl
              refine relG_pure (i := 52) (o := ⟨some 160, _, _, _, _, _⟩) (v := ?v44) [(49, 157, 2), (51, 159, 0), (48, 156, 3)] [] rfl rfl (by kernel_rfl) (by kernel_rfl) (fun t w1 hB hf hbf => ?y44) ?n44
              case y44 =>
               simp only [DepF, List.getD_cons_zero, List.getD_cons_succ] at hf
               obtain ⟨⟨_, ⟨e157, i157⟩, rfl⟩, ⟨_, ⟨e159, i159⟩, rfl⟩, ⟨_, ⟨e156, i156⟩, rfl⟩, _⟩ := hf
               clear hbf
               have bw := BW.out.trans (hB.mono BW.out.size)
               have yo := boxStays YO.out hB
               have o0 := cell_of_row _ z 0 _ _ _ yo
               have o1 := cell_of_row _ z 1 _ _ _ yo
               have o2 := cell_of_row _ z 2 _ _ _ yo
               have o3 := cell_of_row _ z 3 _ _ _ yo
               have o4 := cell_of_row _ z 4 _ _ _ yo
               have o5 := cell_of_row _ z 5 _ _ _ yo
               clear yo
               refine Or.inl ⟨(by have hg := getD_some i156; simp [Region.wanted, yielded, hg]), ?_⟩
               rintro _ rfl
               go_simp <;> with_reducible rfl
              refine relG_pure (i := 53) (o := ⟨some 161, _, _, _, _, _⟩) (v := ?v45) [(48, 156, 4), (52, 160, 0)] [] rfl rfl (by kernel_rfl) (by kernel_rfl) (fun t w1 hB hf hbf => ?y45) ?n45
              case y45 =>
               simp only [DepF, List.getD_cons_zero, List.getD_cons_succ] at hf
               obtain ⟨⟨_, ⟨e156, i156⟩, rfl⟩, ⟨_, ⟨e160, i160⟩, rfl⟩, _⟩ := hf
               clear hbf
               have bw := BW.out.trans (hB.mono BW.out.size)
               have yo := boxStays YO.out hB
               have o0 := cell_of_row _ z 0 _ _ _ yo
               have o1 := cell_of_row _ z 1 _ _ _ yo
               have o2 := cell_of_row _ z 2 _ _ _ yo
               have o3 := cell_of_row _ z 3 _ _ _ yo
               have o4 := cell_of_row _ z 4 _ _ _ yo
               have o5 := cell_of_row _ z 5 _ _ _ yo
               clear yo
               refine Or.inl ⟨wanted_none rfl, ?_⟩
               rintro _ rfl
               go_simp <;> with_reducible rfl
              refine relG_pure (i := 54) (o := ⟨some 162, _, _, _, _, _⟩) (v := ?v46) [(53, 161, 0)] [] rfl rfl (by kernel_rfl) (by kernel_rfl) (fun t w1 hB hf hbf => ?y46) ?n46
              case y46 =>
               simp only [DepF, List.getD_cons_zero] at hf
               obtain ⟨⟨_, ⟨e161, i161⟩, rfl⟩, _⟩ := hf
               clear hbf
               have bw := BW.out.trans (hB.mono BW.out.size)
               have yo := boxStays YO.out hB
               have o0 := cell_of_row _ z 0 _ _ _ yo
               have o1 := cell_of_row _ z 1 _ _ _ yo
               have o2 := cell_of_row _ z 2 _ _ _ yo
               have o3 := cell_of_row _ z 3 _ _ _ yo
               have o4 := cell_of_row _ z 4 _ _ _ yo
               have o5 := cell_of_row _ z 5 _ _ _ yo
               clear yo
               refine Or.inl ⟨wanted_none rfl, ?_⟩
               rintro _ rfl
               go_simp <;> with_reducible rfl
              refine relG_call (i := 55) (o := ⟨some 163, _, _, _, _, _⟩) ((fun v _ => v = .bool true)) [(54, 162, 0)] [] rfl rfl (by kernel_rfl) (by kernel_rfl) ((fun _ _ _ h _ => h)) ?_ ?_
              · intro t w1 hB hf hbf K hK
                simp only [DepF, List.getD_cons_zero] at hf
                obtain ⟨⟨_, ⟨e162, i162⟩, rfl⟩, _⟩ := hf
                clear hbf
                have bw := BW.out.trans (hB.mono BW.out.size)
                have yo := boxStays YO.out hB
                have o0 := cell_of_row _ z 0 _ _ _ yo
                have o1 := cell_of_row _ z 1 _ _ _ yo
                have o2 := cell_of_row _ z 2 _ _ _ yo
                have o3 := cell_of_row _ z 3 _ _ _ yo
                have o4 := cell_of_row _ z 4 _ _ _ yo
                have o5 := cell_of_row _ z 5 _ _ _ yo
                clear yo
                refine ⟨(by have hg := getD_some i162; simp [Region.wanted, yielded, hg]), ?_⟩
                go_simp
                refine (known_09 w1 (G.out.below bw)).mono ?_
                rintro e w2 ⟨rfl, hb⟩
                exact hK.out _ w2 (rfl) hb
              refine relG_pure (i := 56) (o := ⟨some 164, _, _, _, _, _⟩) (v := ?v47) [(54, 162, 1), (55, 163, 0)] [] rfl rfl (by kernel_rfl) (by kernel_rfl) (fun t w1 hB hf hbf => ?y47) ?n47
              case y47 =>
               simp only [DepF, List.getD_cons_zero, List.getD_cons_succ] at hf
               obtain ⟨⟨_, ⟨e162, i162⟩, rfl⟩, ⟨_, ⟨e163, i163⟩, rfl⟩, _⟩ := hf
               clear hbf
               have bw := BW.out.trans (hB.mono BW.out.size)
               have yo := boxStays YO.out hB
               have o0 := cell_of_row _ z 0 _ _ _ yo
               have o1 := cell_of_row _ z 1 _ _ _ yo
               have o2 := cell_of_row _ z 2 _ _ _ yo
               have o3 := cell_of_row _ z 3 _ _ _ yo
               have o4 := cell_of_row _ z 4 _ _ _ yo
               have o5 := cell_of_row _ z 5 _ _ _ yo
               clear yo
               refine Or.inl ⟨wanted_none rfl, ?_⟩
               rintro _ rfl
               go_simp <;> with_reducible rfl
              refine relG_pure (i := 57) (o := ⟨some 6, _, _, _, _, _⟩) (v := ?v48) [(56, 164, 0)] [] rfl rfl (by kernel_rfl) (by kernel_rfl) (fun t w1 hB hf hbf => ?y48) ?n48
              case y48 =>
               simp only [DepF, List.getD_cons_zero] at hf
               obtain ⟨⟨_, ⟨e164, i164⟩, rfl⟩, _⟩ := hf
               clear hbf
               have bw := BW.out.trans (hB.mono BW.out.size)
               have yo := boxStays YO.out hB
               have o0 := cell_of_row _ z 0 _ _ _ yo
               have o1 := cell_of_row _ z 1 _ _ _ yo
               have o2 := cell_of_row _ z 2 _ _ _ yo
               have o3 := cell_of_row _ z 3 _ _ _ yo
               have o4 := cell_of_row _ z 4 _ _ _ yo
               have o5 := cell_of_row _ z 5 _ _ _ yo
               clear yo
               refine Or.inl ⟨wanted_none rfl, ?_⟩
               rintro _ rfl
               go_simp <;> with_reducible rfl
              refine relG_done [(57, 6, 0)] (by kernel_rfl) rfl (by kernel_rfl) (fun f wE hB hf => ?_)
              simp only [FinF, List.getD_cons_zero] at hf
              obtain ⟨⟨_, e6, rfl⟩, _⟩ := hf
              simp only [regT, List.foldl_cons, List.foldl_nil, List.setIfInBounds_toArray, List.set_cons_zero, List.set_cons_succ, e6]
              clear e6
              have HBD := Lib.hid hB
              clear hB
              go_wp2_with fail
              go_meet
              exact ⟨rfl, HBD⟩
             case rest =>
              obtain ⟨rfl, HBC⟩ := hcut
              go_wp2_with fail
              go_ret
              exact ⟨rfl, BW.out.trans (HBC.out.mono BW.out.size)⟩
end Go.Proofs.YtjlliohjeiclaaaDoor
