/- Walks: the reference's reader of numbers. -/
import Derived.Test.YtbgnkdbbkkoinaaWireT
namespace Go.Proofs.Ytbgnkdbbkkoinaa
open Go.RowKit Wire
theorem cntOut_num (l : List UInt8) (p m : Nat) : cntOut l p (m : Int) = if (numOut l p).2.2 = 0 then (if m < (numOut l p).1 then (0, (numOut l p).2.1, 3) else numOut l p) else (0, p, (numOut l p).2.2) := by
  unfold cntOut
  have hneg : ¬ ((m : Int) < 0) := by omega
  simp only [hneg, if_false]
  by_cases hm : m < (numOut l p).1
  · have hm' : (m : Int) < ((numOut l p).1 : Int) := by omega
    simp [hm, hm']
  · have hm' : ¬ (m : Int) < ((numOut l p).1 : Int) := by omega
    simp [hm, hm']
section
variable {w : World} {g : Nat} {ad : Option Addr} {cap : Nat} {l : List UInt8} {p : Nat}
set_option maxRecDepth 20000 in
set_option maxHeartbeats 400000 in
theorem d_Numbers (m : Nat) (hm : m ≤ 9223372036854775807) (hl : l.length ≤ 1048576) (h : dRd w g ad cap l p) :
    Calls Try.prog 45 #[.pointer (some ⟨g, 0, none⟩), .int .i64 (m : Int)] w fun e w' =>
    ∃ v, e = .returned (.tuple #[v, .int .i64 ((listOut (numOut l) p (cntOut l p m)).2.2 : Int)]) ∧ w'.ownsRow w.heap.size 22 1 v (listOut (numOut l) p (cntOut l p m)).1.length (u64s (listOut (numOut l) p (cntOut l p m)).1) ∧
      Reads 61 w g ad cap l (listOut (numOut l) p (cntOut l p m)).2.1 w' := by
  have h1 := h.c1
  have HR := Lib.hid h; clear h
  have HO : Hid (listOut (numOut l) p (cntOut l p m) = if (cntOut l p m).2.2 = 0 then (if (many (numOut l) (cntOut l p m).1 (cntOut l p m).2.1).2.2 = 0 then many (numOut l) (cntOut l p m).1 (cntOut l p m).2.1 else ([], p, (many (numOut l) (cntOut l p m).1 (cntOut l p m).2.1).2.2)) else ([], p, (cntOut l p m).2.2)) := Lib.hid rfl
  obtain ⟨o, ho⟩ : ∃ o, o = listOut (numOut l) p (cntOut l p m) := ⟨_, rfl⟩
  rw [← ho] at HO ⊢
  rw [cntOut_num] at HO
  clear ho
  have hlt := numOut_lt l p
  have HE := Lib.hid (numOut_err l p)
  go_enter Try.func45, Try.ntmps45
  go_wp2_with fail
  refine (d_Number HR.out).mono ?_
  rintro e w1 ⟨rfl, hr⟩
  have HR1 := Lib.hid hr; clear hr h1
  generalize numOut l p = x at *
  obtain ⟨n, p0, er0⟩ := x
  simp only at *
  by_cases he0 : er0 = 0 ∧ n ≤ m
  · obtain ⟨he0, hnm⟩ := he0
    subst he0
    have hnm' : ¬ m < n := by omega
    replace HO : Hid (o = if (many (numOut l) n p0).2.2 = 0 then many (numOut l) n p0 else ([], p, (many (numOut l) n p0).2.2)) := Lib.hid (by rw [HO.out, if_pos rfl, if_neg hnm', if_pos rfl])
    rw [show (((0 : Nat) : Int)) = 0 from rfl]
    go_wp2_with fail
    have HO0 : Hid (w1.ownsRow w1.heap.size 22 1 (.slice none 0 0) 0 (u64s [])) := Lib.hid (World.ownsRow_nil _ _ _ _)
    have HZ : Hid (w.heap.size ≤ w1.heap.size) := Lib.hid HR1.out.grown.size
    have HLT : Hid (g < w.heap.size) := Lib.hid HR.out.lt
    have HBY : Hid (∀ i (hi : i < l.length), ∃ b off, ad = some ⟨b, off, none⟩ ∧ b < w1.heap.size) := Lib.hid (fun i hi => by obtain ⟨b, off, e, hc⟩ := HR1.out.rd.bytes i hi; exact ⟨b, off, e, cell_lt hc⟩)
    go_loopw [8, 9, 10] (fun e v i wr => ∃ (er k q : Nat) (xs : List Nat), e = .int .i64 (er : Int) ∧ i = .int .u64 (k : Int) ∧ Midway (numOut l) n p0 k xs q er ∧ wr.ownsRow w1.heap.size 22 1 v xs.length (u64s xs) ∧ Reads 61 w g ad cap l q wr ∧ w1.heap.size ≤ wr.heap.size) (fun _ _ i _ => l.length + 1 - (intOf i).toNat)
    case atStart => exact ⟨0, 0, p0, [], rfl, rfl, Midway.start _ _ _, HO0.out, HR1.out, Nat.le_refl _⟩
    case round =>
      obtain ⟨er, k, q, xs, rfl, rfl, hmid, hown, hr, hsz⟩ := hrel
      have HM := Lib.hid hmid; clear hmid
      have HOW := Lib.hid hown; clear hown
      have HRr := Lib.hid hr; clear hr
      have hxl : xs.length ≤ 1048577 := by
        have h1 := HM.out.1
        have h2 := HRr.out.rd.here
        by_cases he : er = 0
        · have := (HM.out.2.1 he).2.1; omega
        · have := (HM.out.2.2 he).1; omega
      have hk : k ≤ l.length + 1 := by
        have h1 := HM.out.1
        have h2 := HRr.out.rd.here
        by_cases he : er = 0
        · have := (HM.out.2.1 he).2.1; omega
        · have := (HM.out.2.2 he).1; omega
      by_cases he : er = 0
      · subst he
        have hd0 : ((((0 : Nat) : Int)) == 0) = true := by decide
        by_cases hkn : k < n
        · have hdk : decide ((k : Int) < (n : Int)) = true := by simpa using hkn
          have hk2 : k < l.length + 1 := by have := HM.out.1; have := (HM.out.2.1 rfl).2.1; have h2 := HRr.out.rd.here; omega
          go_wp2_with fail
          refine (d_Number HRr.out.rd).mono ?_
          rintro e w2 ⟨rfl, hr⟩
          have HN := Lib.hid (HM.out.next (numOut_adv l) (numOut_ge l) hkn)
          have HG2 : Hid (wr.grownBy w2 (some g)) := Lib.hid hr.grown
          have HR2 : Hid (Reads 61 w g ad cap l (numOut l q).2.1 w2) := Lib.hid (HRr.out.trans hr)
          have HO2 : Hid (w2.ownsRow w1.heap.size 22 1 u9 xs.length (u64s xs)) := Lib.hid (own_grown HOW.out hr.grown (fun k hk e => by have := (HOW.out.lt k hk).1; cases e; have := HZ.out; have := HLT.out; omega))
          clear hr
          generalize numOut l q = y at *
          have HS2 : Hid (w1.heap.size ≤ w2.heap.size) := Lib.hid (Nat.le_trans hsz HG2.out.size)
          have HSRC : Hid (Src Try.prog 1 87 (.slice (some ⟨w2.heap.size, 0, none⟩) 1 1) 1 (u64s [y.1]) (w2.alloc (.cells #[.int .u64 (y.1 : Int)] 22))) := Lib.hid (src_u64 w2 _ y.1)
          go_wp2_with (at_builtin; refine wpList_app8 rfl _ _ rfl w1.heap.size u9 xs rfl (HO2.out.alloc _) _ y.1 rfl HSRC.out hxl (by have := HS2.out; simp; omega) ?_; intro v3 w3 hown3 hb3)
          have HO3 := Lib.hid hown3; clear hown3
          have HB3 : Hid (Below w1.heap.size w2 w3) := Lib.hid ((((Below.refl _ _).alloc HS2.out _)).trans hb3); clear hb3
          have HR3 : Hid (Reads 61 w g ad cap l y.2.1 w3) := Lib.hid (HR2.out.past HB3.out (.inr trivial) HZ.out (by have := HLT.out; have := HZ.out; omega) HBY.out)
          go_wp2_with fail
          go_roundw
          case rel => exact ⟨y.2.2, k + 1, y.2.1, xs ++ [y.1], rfl, by go_num, HN.out, HO3.out, HR3.out, Nat.le_trans HS2.out HB3.out.size⟩
          case measure => simp [intOf]; omega
        · have hdk : decide ((k : Int) < (n : Int)) = false := by simpa using hkn
          have HN := Lib.hid (HM.out.last hkn)
          have HB' : Hid (o = (xs, q, 0)) := Lib.hid (by rw [HO.out, HN.out, if_pos rfl])
          go_wp2_with fail
          go_ret2
          rw [HB'.out]
          exact ⟨_, rfl, own_mono HOW.out HZ.out, HRr.out⟩
      · have hne : (((er : Nat) : Int) == 0) = false := by simp; omega
        have hne2 : (((er : Nat) : Int) != 0) = true := by simp; omega
        have HN := Lib.hid (HM.out.2.2 he).2
        have HB' : Hid (o = ([], p, er)) := Lib.hid (by rw [HO.out, HN.out, if_neg he])
        have hf1 := HRr.out.rd.f1
        have h1 := HRr.out.rd.c1
        go_wp2_with fail
        go_ret2
        rw [HB'.out]
        exact ⟨_, rfl, World.ownsRow_nil _ _ _ _, HRr.out.trans (Puts.d HRr.out.rd 0 p HR.out.here _ rfl)⟩
  · obtain ⟨er, her, HB'⟩ : ∃ er, er ≠ 0 ∧ Hid (o = ([], p, er) ∧ er = if er0 = 0 then 3 else er0) := by
      by_cases h0 : er0 = 0
      · have hmn : m < n := by omega
        refine ⟨3, by decide, Lib.hid ⟨?_, by rw [if_pos h0]⟩⟩
        rw [HO.out, if_pos h0, if_pos hmn, if_neg (by simp)]
      · refine ⟨er0, h0, Lib.hid ⟨?_, by rw [if_neg h0]⟩⟩
        rw [HO.out, if_neg h0, if_neg h0]
    have hne : (((er : Nat) : Int) == 0) = false := by simp; omega
    have hne2 : (((er : Nat) : Int) != 0) = true := by simp; omega
    have hf1 := HR1.out.rd.f1
    have h1 := HR1.out.rd.c1
    have fin : ∀ v : Value, v = .int .i64 (er : Int) → True := fun _ _ => trivial
    by_cases h0 : er0 = 0
    · have hmn : m < n := by omega
      have h3 : er = 3 := by have := HB'.out.2; rw [if_pos h0] at this; exact this
      subst h0 h3
      rw [show (((0 : Nat) : Int)) = 0 from rfl]
      go_wp2_with fail
      go_loop [8, 9, 10] (fun e _ _ => e = .int .i64 3) (fun _ _ _ => 0)
      case atStart => rfl
      case round =>
        subst hrel
        go_wp2_with fail
        go_ret2
        rw [HB'.out.1]
        exact ⟨_, rfl, World.ownsRow_nil _ _ _ _, HR1.out.trans (Puts.d HR1.out.rd 0 p HR.out.here _ rfl)⟩
    · have h3 : er = er0 := by have := HB'.out.2; rw [if_neg h0] at this; exact this
      subst h3
      go_wp2_with fail
      go_loop [8, 9, 10] (fun e _ _ => e = .int .i64 (er : Int)) (fun _ _ _ => 0)
      case atStart => rfl
      case round =>
        subst hrel
        go_wp2_with fail
        go_ret2
        rw [HB'.out.1]
        exact ⟨_, rfl, World.ownsRow_nil _ _ _ _, HR1.out.trans (Puts.d HR1.out.rd 0 p HR.out.here _ rfl)⟩
end
end Go.Proofs.Ytbgnkdbbkkoinaa

