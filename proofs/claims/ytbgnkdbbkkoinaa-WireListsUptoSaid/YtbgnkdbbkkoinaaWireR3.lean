/- Walks: the reference's reader of bytes. -/
import Derived.Test.YtbgnkdbbkkoinaaWireR2
namespace Go.Proofs.Ytbgnkdbbkkoinaa
open Go.RowKit Wire
theorem bytesOut_num (l : List UInt8) (p m : Nat) : bytesOut l p (m : Int) = if (numOut l p).2.2 = 0 then (if m < (numOut l p).1 then ([], p, 3) else if l.length - (numOut l p).2.1 < (numOut l p).1 then ([], p, 4) else ((l.drop (numOut l p).2.1).take (numOut l p).1, (numOut l p).2.1 + (numOut l p).1, 0)) else ([], p, 4) := by
  have he := numOut_err l p
  have hneg : ¬ ((m : Int) < 0) := by omega
  generalize hx : numOut l p = x at *
  obtain ⟨n, q, er⟩ := x
  simp only at *
  unfold bytesOut cntOut
  rw [hx]
  simp only [hneg, if_false]
  by_cases h0 : er = 0
  · subst h0
    by_cases hm : m < n
    · have hm' : (m : Int) < (n : Int) := by omega
      simp [hm, hm']
    · have hm' : ¬ (m : Int) < (n : Int) := by omega
      simp [hm, hm']
  · have := he.resolve_left h0
    simp only [Prod.mk.injEq] at this
    obtain ⟨rfl, rfl, rfl⟩ := this
    simp
section
variable {w : World} {g : Nat} {ad : Option Addr} {cap : Nat} {l : List UInt8} {p : Nat}
set_option maxHeartbeats 400000 in
theorem d_Bytes (m : Nat) (hm : m ≤ 9223372036854775807) (h : dRd w g ad cap l p) : Calls Try.prog 43 #[.pointer (some ⟨g, 0, none⟩), .int .i64 (m : Int)] w fun e w' =>
    ∃ v, e = .returned (.tuple #[v, .int .i64 ((bytesOut l p m).2.2 : Int)]) ∧ w'.ownsRow w.heap.size 5 1 v (bytesOut l p m).1.length (bvs (bytesOut l p m).1) ∧ Reads 61 w g ad cap l (bytesOut l p m).2.1 w' := by
  have h1 := h.c1
  have hle := h.here
  have hmx := h.max
  have HR := Lib.hid h; clear h
  have HB := Lib.hid (bytesOut_num l p m)
  have hlt := numOut_lt l p
  have HE := Lib.hid (numOut_err l p)
  obtain ⟨o, ho⟩ : ∃ o, o = bytesOut l p m := ⟨_, rfl⟩
  rw [← ho] at HB ⊢
  clear ho
  go_enter Try.func43, Try.ntmps43
  go_wp2_with fail
  refine (d_Number HR.out).mono ?_
  rintro e w1 ⟨rfl, hr⟩
  clear h1
  have k0 := hr.rd.c0
  have k1 := hr.rd.c1
  have kf := hr.rd.f1
  have kle := hr.rd.here
  have HR1 := Lib.hid hr; clear hr
  generalize numOut l p = x at *
  obtain ⟨n, q', er⟩ := x
  simp only at *
  by_cases he : er = 0
  · subst he
    replace HB : Hid (o = if m < n then ([], p, 3) else if l.length - q' < n then ([], p, 4) else ((l.drop q').take n, q' + n, 0)) := Lib.hid (by rw [HB.out, if_pos rfl])
    by_cases hmn : m < n
    · have HB' : Hid (o = ([], p, 3)) := Lib.hid (by rw [HB.out, if_pos hmn])
      go_wp2_with fail
      go_ret2
      rw [HB'.out]
      exact ⟨_, rfl, World.ownsRow_nil _ _ _ _, HR1.out.trans (Puts.d HR1.out.rd 0 p HR.out.here _ rfl)⟩
    · go_wp2_with fail
      refine (d_Left HR1.out.rd).mono ?_
      rintro e w2 ⟨rfl, q, rfl⟩
      obtain ⟨left, hleft⟩ : ∃ left, left = l.length - q' := ⟨_, rfl⟩
      rw [← hleft]
      have HLE := Lib.hid hleft
      have hl45 : left ≤ 35184372088832 := by omega
      clear hleft
      by_cases hgt : left < n
      · have HB' : Hid (o = ([], p, 4)) := Lib.hid (by rw [HB.out, if_neg hmn, if_pos (by rw [← HLE.out]; exact hgt)])
        go_wp2_with fail
        go_ret2
        rw [HB'.out]
        exact ⟨_, rfl, World.ownsRow_nil _ _ _ _, HR1.out.trans (Puts.d HR1.out.rd q p HR.out.here _ rfl)⟩
      · have HB' : Hid (o = ((l.drop q').take n, q' + n, 0)) := Lib.hid (by rw [HB.out, if_neg hmn, if_neg (by rw [← HLE.out]; exact hgt)])
        have hnle : n ≤ l.length - q' := by have := HLE.out; omega
        go_wp2_with fail
        have R := HR1.out.trans (Puts.d HR1.out.rd q (q' + n) (by omega) ((q' : Int) + (n : Int)) (by simp))
        clear HR1 k0 k1 kf
        have k0 := R.rd.c0
        have k1 := R.rd.c1
        rw [show ((q' + n : Nat) : Int) = (q' : Int) + (n : Int) from by simp] at k1
        have HR2 := Lib.hid R; clear R
        generalize (w1.drewN q).setCell ⟨g, 1, none⟩ (.int .i64 ((q' : Int) + (n : Int))) = W at *
        have B0 : Below W.heap.size W W.drew := (Below.refl _ _).drew
        have hfit := HR2.out.rd.fits
        have hi1 : (0 : Int) ≤ (q' : Int) := by omega
        have hi2 : (q' : Int) ≤ (q' : Int) + (n : Int) := by omega
        have hi3 : (q' : Int) + (n : Int) ≤ (cap : Int) := by omega
        have HN := Lib.hid hgt
        have hw1 : IntKind.i64.wrap (q' : Int) = (q' : Int) := i64_wrap (by omega) (by omega)
        have hw0 : IntKind.i64.wrap (n : Int) = (n : Int) := i64_wrap (by omega) (by omega)
        have hw2 : ((q' : Int) + (n : Int) - (n : Int)) = (q' : Int) := by omega
        have hto : ((q' : Int) + (n : Int)).toNat - q' = n := by omega
        have hlt2 : ¬ (q' : Int) + (n : Int) < (q' : Int) := by omega
        have hlt3 : ¬ (cap : Int) < (q' : Int) + (n : Int) := by omega
        clear hgt
        have hLn : ((l.drop q').take n).length = n := by simp; omega
        have HLEN : Hid (([] : List UInt8).length + ((l.drop q').take n).length ≤ 70368744177664) := Lib.hid (by simp; omega)
        rcases ad with _ | ad
        · have hl0 : l = [] := by
            rcases l with _ | ⟨c, r⟩
            · rfl
            · obtain ⟨b, off, e, _⟩ := HR2.out.rd.bytes 0 (by simp)
              cases e
          subst hl0
          obtain rfl : q' = 0 := by simp at kle; exact kle
          obtain rfl : n = 0 := by simp at hnle; exact hnle
          have HS : Hid (Src Try.prog 1 23 (.slice none 0 cap) ([] : List UInt8).length (bvs []) W.drew) := Lib.hid ((BytesAt.nil _ _).src Try.underlying23 cap)
          have hw00 : IntKind.i64.wrap 0 = 0 := by decide
          rw [show (((0 : Nat) : Int) + ((0 : Nat) : Int)) = 0 from by simp] at k1
          clear hLn
          go_region_held3 (fun w' => w'.cell? ⟨g, 0, none⟩ = some (.slice none 0 cap) ∧ w'.cell? ⟨g, 1, none⟩ = some (.int .i64 0))
            (first
              | exact ⟨k0, k1⟩
              | exact ⟨(B0.cell (p := ⟨g, 0, none⟩) HR2.out.rd.lt).trans k0, (B0.cell (p := ⟨g, 1, none⟩) HR2.out.rd.lt).trans k1⟩
              | exact ⟨((B0.trans hb1).cell (p := ⟨g, 0, none⟩) HR2.out.rd.lt).trans k0, ((B0.trans hb1).cell (p := ⟨g, 1, none⟩) HR2.out.rd.lt).trans k1⟩)
            (first | (refine step_appb rfl _ _ 23 23 rfl W.heap.size 5 byteT (.slice none 0 0) [] rfl (World.ownsRow_nil _ _ _ _) (.slice none 0 cap) [] rfl HS.out (by simp) (by simp) ?_; intro v' w1 hown1 _ hb1 _))
          have HO1 := Lib.hid hown1; clear hown1
          have HB1 := Lib.hid (B0.trans hb1); clear hb1
          go_wp2_with fail
          go_ret2
          rw [HB'.out]
          exact ⟨_, rfl, own_mono HO1.out (HR2.out.grown.size), HR2.out.rd.below HB1.out, HR2.out.grown.trans (grown_below HB1.out)⟩
        · by_cases hcq : cap = q'
          · obtain rfl : n = 0 := by omega
            obtain rfl : q' = cap := hcq.symm
            have hw00 : IntKind.i64.wrap 0 = 0 := by decide
            have HS : Hid (Src Try.prog 1 23 (.slice (some ad) 0 0) ([] : List UInt8).length (bvs []) W.drew) := Lib.hid ((BytesAt.nil _ _).src Try.underlying23 0)
            rw [show ((q' : Int) + ((0 : Nat) : Int)) = (q' : Int) from by simp] at k1
            clear hLn
            go_region_held3 (fun w' => w'.cell? ⟨g, 0, none⟩ = some (.slice (some ad) l.length q') ∧ w'.cell? ⟨g, 1, none⟩ = some (.int .i64 (q' : Int)))
              (first
                | exact ⟨k0, k1⟩
                | exact ⟨(B0.cell (p := ⟨g, 0, none⟩) HR2.out.rd.lt).trans k0, (B0.cell (p := ⟨g, 1, none⟩) HR2.out.rd.lt).trans k1⟩
                | exact ⟨((B0.trans hb1).cell (p := ⟨g, 0, none⟩) HR2.out.rd.lt).trans k0, ((B0.trans hb1).cell (p := ⟨g, 1, none⟩) HR2.out.rd.lt).trans k1⟩)
              (first | (refine step_appb rfl _ _ 23 23 rfl W.heap.size 5 byteT (.slice none 0 0) [] rfl (World.ownsRow_nil _ _ _ _) (.slice (some ad) 0 0) [] rfl HS.out (by simp) (by simp) ?_; intro v' w1 hown1 _ hb1 _))
            have HO1 := Lib.hid hown1; clear hown1
            have HB1 := Lib.hid (B0.trans hb1); clear hb1
            go_wp2_with fail
            go_ret2
            rw [HB'.out]
            rw [List.take_zero]
            exact ⟨_, rfl, own_mono HO1.out (HR2.out.grown.size), HR2.out.rd.below HB1.out, HR2.out.grown.trans (grown_below HB1.out)⟩

          · have HS : Hid (Src Try.prog 1 23 (.slice (some (ad.add q')) n (cap - q')) ((l.drop q').take n).length (bvs ((l.drop q').take n)) W.drew) := Lib.hid (by
              have h1 := ((HR2.out.rd.bytes.sub cap q' n (by omega) hfit).below B0 rfl).src Try.underlying23 (cap - q')
              unfold subAddr at h1
              rw [if_neg hcq, hLn] at h1
              rwa [hLn])
            clear hLn
            go_region_held3 (fun w' => w'.cell? ⟨g, 0, none⟩ = some (.slice (some ad) l.length cap) ∧ w'.cell? ⟨g, 1, none⟩ = some (.int .i64 ((q' : Int) + (n : Int))))
              (first
                | exact ⟨k0, k1⟩
                | exact ⟨(B0.cell (p := ⟨g, 0, none⟩) HR2.out.rd.lt).trans k0, (B0.cell (p := ⟨g, 1, none⟩) HR2.out.rd.lt).trans k1⟩
                | exact ⟨((B0.trans hb1).cell (p := ⟨g, 0, none⟩) HR2.out.rd.lt).trans k0, ((B0.trans hb1).cell (p := ⟨g, 1, none⟩) HR2.out.rd.lt).trans k1⟩)
              (first | (refine step_appb rfl _ _ 23 23 rfl W.heap.size 5 byteT (.slice none 0 0) [] rfl (World.ownsRow_nil _ _ _ _) (.slice (some (ad.add q')) n (cap - q')) ((l.drop q').take n) rfl HS.out HLEN.out (by simp) ?_; intro v' w1 hown1 _ hb1 _))
            have HO1 := Lib.hid hown1; clear hown1
            have HB1 := Lib.hid (B0.trans hb1); clear hb1
            go_wp2_with fail
            go_ret2
            rw [HB'.out]
            exact ⟨_, rfl, own_mono HO1.out (HR2.out.grown.size), HR2.out.rd.below HB1.out, HR2.out.grown.trans (grown_below HB1.out)⟩
  · have HX : Hid ((n, q', er) = (0, p, 4)) := Lib.hid (HE.out.resolve_left he)
    have HB' : Hid (o = ([], p, 4)) := Lib.hid (by rw [HB.out, if_neg he])
    have her : er = 4 := by have := HX.out; simp at this; exact this.2.2
    subst her
    go_wp2_with fail
    go_ret2
    rw [HB'.out]
    exact ⟨_, rfl, World.ownsRow_nil _ _ _ _, HR1.out.trans (Puts.d HR1.out.rd 0 p HR.out.here _ rfl)⟩
end
end Go.Proofs.Ytbgnkdbbkkoinaa

