/- The walk of one step of two readers. -/
import Derived.Test.YtbgnkdbbkkoinaaWireT2
namespace Go.Proofs.Ytbgnkdbbkkoinaa
open Go.RowKit Wire
/-- Two readers of the same bytes at the same place; all that they are lies below a block number. -/
structure Two (w : World) (B g d : Nat) (ad : Addr) (cap : Nat) (ad' : Option Addr) (cap' : Nat) (l : List UInt8) (p : Nat) : Prop where
  r : wRd w g (some ad) cap l p
  rr : dRd w d ad' cap' l p
  ne : d ≠ g
  gl : g < B
  dl : d < B
  rb : ∀ i (_ : i < l.length), ∃ b off, some ad = some (⟨b, off, none⟩ : Addr) ∧ b < B
  db : ∀ i (_ : i < l.length), ∃ b off, ad' = some (⟨b, off, none⟩ : Addr) ∧ b < B
theorem RdAt.past {T : TypeId} {w w' : World} {g : Nat} {a : Option Addr} {cap : Nat} {l : List UInt8} {p B : Nat} (h : RdAt T w g a cap l p) (hb : Below B w w') (hg : g < B) (hbytes : ∀ i (_ : i < l.length), ∃ b off, a = some (⟨b, off, none⟩ : Addr) ∧ b < B) : RdAt T w' g a cap l p := by
  refine ⟨(hb.block g hg).trans h.row, ?_, h.here, h.max, h.fits⟩
  intro i hi
  obtain ⟨b, off, e, hc⟩ := h.bytes i hi
  obtain ⟨b', off', e', hlt⟩ := hbytes i hi
  rw [e] at e'
  cases e'
  exact ⟨b, off, e, by rw [hb.cell (p := ⟨b, off + i, none⟩) hlt]; exact hc⟩
section
variable {w w' : World} {B g d : Nat} {ad : Addr} {cap : Nat} {ad' : Option Addr} {cap' : Nat} {l : List UInt8} {p : Nat}
theorem Two.past (h : Two w B g d ad cap ad' cap' l p) (hb : Below B w w') : Two w' B g d ad cap ad' cap' l p :=
  ⟨h.r.past hb h.gl h.rb, h.rr.past hb h.dl h.db, h.ne, h.gl, h.dl, h.rb, h.db⟩
theorem Two.mid {w2 : World} {q : Nat} (h : Two w B g d ad cap ad' cap' l p) (h1 : Reads 73 w g (some ad) cap l q w2) : dRd w2 d ad' cap' l p := h.rr.other h.r h.ne h1.grown
/-- Behind a call of the one, and a call of the other. -/
theorem Two.both {w2 w3 : World} {q : Nat} (h : Two w B g d ad cap ad' cap' l p) (h1 : Reads 73 w g (some ad) cap l q w2) (h2 : Reads 61 w2 d ad' cap' l q w3) : Two w3 B g d ad cap ad' cap' l q :=
  ⟨h1.rd.other (h.mid h1) h.ne.symm h2.grown, h2.rd, h.ne, h.gl, h.dl, h.rb, h.db⟩
theorem Two.one {w2 : World} (h : Two w B g d ad cap ad' cap' l p) (h1 : Reads 73 w g (some ad) cap l p w2) : Two w2 B g d ad cap ad' cap' l p :=
  ⟨h1.rd, h.mid h1, h.ne, h.gl, h.dl, h.rb, h.db⟩
/-- All that stood below both readers stands. -/
def Kept (g d : Nat) (w w' : World) : Prop := ∀ B, B ≤ g → B ≤ d → B ≤ w.heap.size → Below B w w'
theorem Kept.refl (w : World) : Kept g d w w := fun _ _ _ _ => Below.refl _ _
theorem Kept.trans {w1 w2 : World} (h : Kept g d w w1) (k : Kept g d w1 w2) : Kept g d w w2 := fun B h1 h2 h3 => (h B h1 h2 h3).trans (k B h1 h2 (Nat.le_trans h3 (h B h1 h2 h3).size))
theorem Kept.below {w1 : World} (hb : Below w.heap.size w w1) : Kept g d w w1 := fun _ _ _ h3 => hb.mono h3
theorem Kept.past {w1 : World} {C : Nat} (hb : Below C w w1) (hg : g < C) : Kept g d w w1 := fun _ h1 _ _ => hb.mono (by omega)
theorem Kept.r {w1 : World} (hg : w.grownBy w1 (some g)) (hl : g < w.heap.size) : Kept g d w w1 := fun _ h1 _ _ => only_below hg h1 hl
theorem Kept.other {w1 : World} (hg : w.grownBy w1 (some d)) (hl : d < w.heap.size) : Kept g d w w1 := fun _ _ h2 _ => only_below hg h2 hl
theorem bytesOut_len (l : List UInt8) (p : Nat) (m : Int) : (bytesOut l p m).1.length ≤ l.length := by
  unfold bytesOut
  split
  · split
    · simp
    · simp; omega
  · simp
theorem box2 {W : World} {g : Nat} {t : TypeId} {fr : Nat × Nat} {x0 x1 : Value} (h : W.heap[g]? = some (.cells #[x0, x1] t fr)) : W.cell? ⟨g, 0, none⟩ = some x0 ∧ W.cell? ⟨g, 1, none⟩ = some x1 :=
  ⟨cell_of_row _ _ _ _ _ _ h, cell_of_row _ _ _ _ _ _ h⟩
theorem box_grown {w w' : World} {b g : Nat} {o : Obj} (h : w.heap[b]? = some o) (hg : w.grownBy w' (some g)) (hne : b ≠ g) : w'.heap[b]? = some o :=
  (hg.block b (Array.getElem?_eq_some_iff.1 h).1 (by simpa using hne)).trans h
set_option maxRecDepth 20000 in
set_option maxHeartbeats 1000000 in
theorem step_bytes (M : Int) (hM1 : -9223372036854775808 ≤ M) (hM : M ≤ 9223372036854775807) (hl : l.length ≤ 1048576) (h : Two w B g d ad cap ad' cap' l p) (hB : B ≤ w.heap.size) :
    Calls Try.prog 31 #[.pointer (some ⟨g, 0, none⟩), .pointer (some ⟨d, 0, none⟩), .agg #[.int .i64 4, .int .i64 M]] w fun e w' => e = .returned (.bool true) ∧ (∃ q, Two w' B g d ad cap ad' cap' l q) ∧ Kept g d w w' := by
  have HT0 : Hid (Two (w.alloc (.cells #[.int .i64 4, .int .i64 M] 64)) B g d ad cap ad' cap' l p) := Lib.hid (h.past ((below_new _ _).mono hB))
  have HK0 : Hid (Kept g d w (w.alloc (.cells #[.int .i64 4, .int .i64 M] 64))) := Lib.hid (Kept.below (below_new _ _))
  have HX := Lib.hid (heap_alloc_new w (.cells #[.int .i64 4, .int .i64 M] 64))
  have HBL : Hid (B ≤ w.heap.size) := Lib.hid hB
  have HGL : Hid (g < w.heap.size ∧ d < w.heap.size) := Lib.hid ⟨h.r.lt, h.rr.lt⟩
  have HS0 : Hid (w.heap.size < (w.alloc (.cells #[.int .i64 4, .int .i64 M] 64)).heap.size) := Lib.hid (by simp)
  clear h hB
  go_enter Try.func31, Try.ntmps31
  go_wp2_with fail
  generalize w.alloc (.cells #[.int .i64 4, .int .i64 M] 64) = w0 at *
  refine (rd_Bytes M hM HT0.out.r).mono ?_
  rintro e w2 ⟨v, rfl, hown, hr⟩
  have HR := Lib.hid hr; clear hr
  have HX2 := Lib.hid (box_grown HX.out HR.out.grown (by have := HGL.out; omega))
  obtain ⟨k0, k1⟩ := box2 HX2.out
  by_cases hneg : M < 0
  · have e0 : bytesOut l p M = ([], p, 2) := by unfold bytesOut cntOut; rw [if_pos hneg, if_neg (by simp)]
    rw [e0] at HR hown ⊢
    obtain ⟨a, c, rfl, hab⟩ := own_bytesAt hown
    have HKK := Lib.hid (HK0.out.trans (Kept.r HR.out.grown HT0.out.r.lt))
    have HTT := Lib.hid (HT0.out.one HR.out)
    clear hown hab
    go_wp2_with fail
    refine (num_any _ _).mono ?_
    rintro e w4 ⟨rfl, rfl⟩
    go_wp2_with fail
    go_ret
    exact ⟨rfl, ⟨_, HTT.out⟩, HKK.out⟩
  · obtain ⟨m, rfl⟩ : ∃ m : Nat, M = m := ⟨M.toNat, by omega⟩
    have HLL := Lib.hid (bytesOut_len l p (m : Int))
    have HOW := Lib.hid hown; clear hown
    obtain ⟨y, hy⟩ : ∃ y, y = bytesOut l p (m : Int) := ⟨_, rfl⟩
    rw [← hy] at HR HLL HOW ⊢
    have HY := Lib.hid hy; clear hy
    obtain ⟨a, c, rfl, hab⟩ := own_bytesAt HOW.out
    have HA := Lib.hid hab; clear hab
    go_wp2_with fail
    refine (d_Bytes m (by omega) (HT0.out.mid HR.out)).mono ?_
    rintro e w3 ⟨v3, rfl, hown, hr⟩
    rw [← HY.out] at hown hr ⊢
    have HD := Lib.hid hr; clear hr
    have HKK := Lib.hid (HK0.out.trans ((Kept.r HR.out.grown HT0.out.r.lt).trans (Kept.other HD.out.grown (HT0.out.mid HR.out).lt)))
    have HTT := Lib.hid (HT0.out.both HR.out HD.out)
    obtain ⟨a3, c3, rfl, hab⟩ := own_bytesAt hown
    clear k0 k1 hown
    have HOW3 := Lib.hid (own_grown HOW.out HD.out.grown (fun k hk e => by have := (HOW.out.lt k hk).1; cases e; have := HGL.out; have := HS0.out; omega))
    have s1 := (HA.out.reader (HT0.out.mid HR.out) HD.out.grown).str y.1.length c rfl
    have s2 := hab.str y.1.length c3 rfl
    clear hab
    go_wp2_with fail
    refine (num_any _ _).mono ?_
    rintro e w4 ⟨rfl, rfl⟩
    go_wp2_with fail
    refine (spoil_own y.1 _ _ _ HOW3.out (by have := HLL.out; omega)).mono ?_
    rintro e w4 ⟨rfl, hgr⟩
    have HB4 : Hid (Below w0.heap.size w3 w4) := Lib.hid (below_of_grown HOW3.out (Nat.le_trans HR.out.grown.size HD.out.grown.size) hgr)
    clear hgr s1 s2
    go_wp2_with fail
    go_ret
    exact ⟨rfl, ⟨_, HTT.out.past (HB4.out.mono (by have := HBL.out; have := HS0.out; omega))⟩, HKK.out.trans (Kept.past HB4.out (by have := HGL.out; have := HS0.out; omega))⟩
theorem own_u64s {w : World} {base n : Nat} {a : Option Addr} {len c : Nat} {xs : List Nat} (h : w.ownsRow base 22 1 (.slice a len c) n (u64s xs)) (i : Nat) (hi : i < xs.length) : ∃ k, a = some ⟨k, 0, none⟩ ∧ w.cell? ⟨k, i, none⟩ = some (.int .u64 (xs[i] : Int)) := by
  obtain ⟨k, e, _, hc, _⟩ := own_cell h i (.int .u64 (xs[i] : Int)) (by simp [u64s, hi])
  exact ⟨k, e, hc⟩
set_option maxRecDepth 20000 in
set_option maxHeartbeats 1000000 in
theorem step_nums (M : Int) (hM1 : -9223372036854775808 ≤ M) (hM : M ≤ 9223372036854775807) (hl : l.length ≤ 1048576) (h : Two w B g d ad cap ad' cap' l p) (hB : B ≤ w.heap.size) :
    Calls Try.prog 31 #[.pointer (some ⟨g, 0, none⟩), .pointer (some ⟨d, 0, none⟩), .agg #[.int .i64 5, .int .i64 M]] w fun e w' => e = .returned (.bool true) ∧ (∃ q, Two w' B g d ad cap ad' cap' l q) ∧ Kept g d w w' := by
  have HT0 : Hid (Two (w.alloc (.cells #[.int .i64 5, .int .i64 M] 64)) B g d ad cap ad' cap' l p) := Lib.hid (h.past ((below_new _ _).mono hB))
  have HK0 : Hid (Kept g d w (w.alloc (.cells #[.int .i64 5, .int .i64 M] 64))) := Lib.hid (Kept.below (below_new _ _))
  have HX := Lib.hid (heap_alloc_new w (.cells #[.int .i64 5, .int .i64 M] 64))
  have HBL : Hid (B ≤ w.heap.size) := Lib.hid hB
  have HGL : Hid (g < w.heap.size ∧ d < w.heap.size) := Lib.hid ⟨h.r.lt, h.rr.lt⟩
  have HS0 : Hid (w.heap.size < (w.alloc (.cells #[.int .i64 5, .int .i64 M] 64)).heap.size) := Lib.hid (by simp)
  clear h hB
  go_enter Try.func31, Try.ntmps31
  go_wp2_with fail
  generalize w.alloc (.cells #[.int .i64 5, .int .i64 M] 64) = w0 at *
  refine (take_u64 M hM hl HT0.out.r).mono ?_
  rintro e w2 ⟨v, rfl, hown, hr⟩
  have HR := Lib.hid hr; clear hr
  have HX2 := Lib.hid (box_grown HX.out HR.out.grown (by have := HGL.out; omega))
  obtain ⟨k0, k1⟩ := box2 HX2.out
  by_cases hneg : M < 0
  · have e0 : listOut (numOut l) p (cntOut l p M) = ([], p, 2) := by unfold listOut cntOut; rw [if_pos hneg, if_neg (by simp)]
    rw [e0] at HR hown ⊢
    obtain ⟨a, c, rfl, _, _⟩ := own_slice hown
    have HKK := Lib.hid (HK0.out.trans (Kept.r HR.out.grown HT0.out.r.lt))
    have HTT := Lib.hid (HT0.out.one HR.out)
    clear hown
    go_wp2_with fail
    refine (num_any _ _).mono ?_
    rintro e w4 ⟨rfl, rfl⟩
    go_wp2_with fail
    go_ret
    exact ⟨rfl, ⟨_, HTT.out⟩, HKK.out⟩
  · obtain ⟨m, rfl⟩ : ∃ m : Nat, M = m := ⟨M.toNat, by omega⟩
    have HOW := Lib.hid hown; clear hown
    obtain ⟨y, hy⟩ : ∃ y, y = listOut (numOut l) p (cntOut l p (m : Int)) := ⟨_, rfl⟩
    rw [← hy] at HR HOW ⊢
    have HY := Lib.hid hy; clear hy
    obtain ⟨a, c, rfl, hlc, hcm⟩ := own_slice HOW.out
    go_wp2_with fail
    refine (d_Numbers m (by omega) hl (HT0.out.mid HR.out)).mono ?_
    rintro e w3 ⟨v3, rfl, hown, hr⟩
    rw [← HY.out] at hown hr ⊢
    have HD := Lib.hid hr; clear hr
    have HKK := Lib.hid (HK0.out.trans ((Kept.r HR.out.grown HT0.out.r.lt).trans (Kept.other HD.out.grown (HT0.out.mid HR.out).lt)))
    have HTT := Lib.hid (HT0.out.both HR.out HD.out)
    obtain ⟨a3, c3, rfl, _, _⟩ := own_slice hown
    have HOD := Lib.hid hown
    clear k0 k1 hown
    have HOW3 := Lib.hid (own_grown HOW.out HD.out.grown (fun k hk e => by have := (HOW.out.lt k hk).1; cases e; have := HGL.out; have := HS0.out; omega))
    unfold maxLen at hcm
    generalize y.1 = xs at *
    have hxl : xs.length ≤ 9223372036854775807 := by omega
    go_wp2_with fail
    refine (num_any _ _).mono ?_
    rintro e w4 ⟨rfl, rfl⟩
    go_wp2_with fail
    go_loopw [28] (fun i wr => ∃ k : Nat, k ≤ xs.length ∧ i = .int .i64 (k : Int) ∧ ∃ q, wr = w3.drewN q) (fun i _ => xs.length - (intOf i).toNat)
    case atStart => exact ⟨0, Nat.zero_le _, rfl, 0, rfl⟩
    case round =>
      obtain ⟨k, hk, rfl, q, rfl⟩ := hrel
      by_cases hlt : k < xs.length
      · obtain ⟨b1, rfl, c1⟩ := own_u64s HOW3.out k hlt
        obtain ⟨b2, rfl, c2⟩ := own_u64s HOD.out k hlt
        have hi0 : (0 : Int) ≤ (k : Int) := by omega
        have hi1 : (k : Int) < (xs.length : Int) := by omega
        generalize xs[k] = z at *
        go_wp2_with fail
        go_quiet (fail)
        go_wp2_with fail
        go_roundw
        case rel => exact ⟨k + 1, by omega, by go_num, _, rfl⟩
        case measure => simp [intOf]; omega
      · go_wp2_with fail
        go_ret
        exact ⟨rfl, ⟨_, HTT.out.past (below_drews (Below.refl _ _) _)⟩, HKK.out.trans (Kept.below (below_drews (Below.refl _ _) _))⟩
set_option maxRecDepth 20000 in
set_option maxHeartbeats 1000000 in
theorem step_ok (K M : Int) (hM1 : -9223372036854775808 ≤ M) (hM : M ≤ 9223372036854775807) (hl : l.length ≤ 1048576) (h : Two w B g d ad cap ad' cap' l p) (hB : B ≤ w.heap.size) :
    Calls Try.prog 31 #[.pointer (some ⟨g, 0, none⟩), .pointer (some ⟨d, 0, none⟩), .agg #[.int .i64 K, .int .i64 M]] w fun e w' => e = .returned (.bool true) ∧ (∃ q, Two w' B g d ad cap ad' cap' l q) ∧ Kept g d w w' := by
  have hb4 := Lib.hid (step_bytes M hM1 hM hl h hB)
  have hb5 := Lib.hid (step_nums M hM1 hM hl h hB)
  have HT0 : Hid (Two (w.alloc (.cells #[.int .i64 K, .int .i64 M] 64)) B g d ad cap ad' cap' l p) := Lib.hid (h.past ((below_new _ _).mono hB))
  have HK0 : Hid (Kept g d w (w.alloc (.cells #[.int .i64 K, .int .i64 M] 64))) := Lib.hid (Kept.below (below_new _ _))
  have HX := Lib.hid (heap_alloc_new w (.cells #[.int .i64 K, .int .i64 M] 64))
  have HBL : Hid (B ≤ w.heap.size) := Lib.hid hB
  have HGL : Hid (g < w.heap.size ∧ d < w.heap.size) := Lib.hid ⟨h.r.lt, h.rr.lt⟩
  clear h hB
  by_cases h1 : K = 1
  · subst h1
    go_enter Try.func31, Try.ntmps31
    go_wp2_with fail
    generalize w.alloc (.cells #[.int .i64 1, .int .i64 M] 64) = w0 at *
    refine (rd_Number HT0.out.r).mono ?_
    rintro e w2 ⟨rfl, hr⟩
    have HR := Lib.hid hr; clear hr
    go_wp2_with fail
    refine (d_Number (HT0.out.mid HR.out)).mono ?_
    rintro e w3 ⟨rfl, hr⟩
    have HD := Lib.hid hr; clear hr
    have HKK := Lib.hid (HK0.out.trans ((Kept.r HR.out.grown HT0.out.r.lt).trans (Kept.other HD.out.grown (HT0.out.mid HR.out).lt)))
    have HTT := Lib.hid (HT0.out.both HR.out HD.out)
    generalize numOut l p = y at *
    go_wp2_with fail
    refine (num_any _ _).mono ?_
    rintro e w4 ⟨rfl, rfl⟩
    go_wp2_with fail
    go_ret
    exact ⟨rfl, ⟨_, HTT.out⟩, HKK.out⟩
  · by_cases h2 : K = 2
    · subst h2
      clear h1
      go_enter Try.func31, Try.ntmps31
      go_wp2_with fail
      generalize w.alloc (.cells #[.int .i64 2, .int .i64 M] 64) = w0 at *
      refine (rd_Signed HT0.out.r).mono ?_
      rintro e w2 ⟨rfl, hr⟩
      have HR := Lib.hid hr; clear hr
      go_wp2_with fail
      refine (d_Signed (HT0.out.mid HR.out)).mono ?_
      rintro e w3 ⟨rfl, hr⟩
      have HD := Lib.hid hr; clear hr
      have HKK := Lib.hid (HK0.out.trans ((Kept.r HR.out.grown HT0.out.r.lt).trans (Kept.other HD.out.grown (HT0.out.mid HR.out).lt)))
      have HTT := Lib.hid (HT0.out.both HR.out HD.out)
      generalize numOut l p = y at *
      go_wp2_with fail
      refine (num_any _ _).mono ?_
      rintro e w4 ⟨rfl, rfl⟩
      go_wp2_with fail
      go_ret
      exact ⟨rfl, ⟨_, HTT.out⟩, HKK.out⟩
    · by_cases h3 : K = 3
      · subst h3
        clear h1 h2
        go_enter Try.func31, Try.ntmps31
        go_wp2_with fail
        generalize w.alloc (.cells #[.int .i64 3, .int .i64 M] 64) = w0 at *
        refine (rd_Flag HT0.out.r).mono ?_
        rintro e w2 ⟨rfl, hr⟩
        have HR := Lib.hid hr; clear hr
        go_wp2_with fail
        refine (d_Flag (HT0.out.mid HR.out)).mono ?_
        rintro e w3 ⟨rfl, hr⟩
        have HD := Lib.hid hr; clear hr
        have HKK := Lib.hid (HK0.out.trans ((Kept.r HR.out.grown HT0.out.r.lt).trans (Kept.other HD.out.grown (HT0.out.mid HR.out).lt)))
        have HTT := Lib.hid (HT0.out.both HR.out HD.out)
        generalize flagOut l p = y at *
        go_wp2_with fail
        refine (num_any _ _).mono ?_
        rintro e w4 ⟨rfl, rfl⟩
        go_wp2_with fail
        go_ret
        exact ⟨rfl, ⟨_, HTT.out⟩, HKK.out⟩
      · by_cases h4 : K = 4
        · subst h4
          exact hb4.out
        · by_cases h5 : K = 5
          · subst h5
            exact hb5.out
          · have e1 : (K == 1) = false := by simpa using h1
            have e2 : (K == 2) = false := by simpa using h2
            have e3 : (K == 3) = false := by simpa using h3
            have e4 : (K == 4) = false := by simpa using h4
            have e5 : (K == 5) = false := by simpa using h5
            clear h1 h2 h3 h4 h5
            go_enter Try.func31, Try.ntmps31
            go_wp2_with fail
            go_ret
            exact ⟨rfl, ⟨_, HT0.out⟩, HK0.out⟩
end
end Go.Proofs.Ytbgnkdbbkkoinaa

