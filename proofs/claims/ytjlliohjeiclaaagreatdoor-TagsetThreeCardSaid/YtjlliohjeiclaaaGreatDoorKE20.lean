/- Words, contracts and walks that the proof stands on (TgD TgJ TgC OpenC OpenG OpenT OpenY). -/
import Derived.Deep.DeepHandedRow
import Derived.Deep.DeepWitnessRowRef
import Derived.Deep.Grids
import Derived.Deep.Slices
import Derived.Lib.LaidIn
import Derived.Lib.LaidU8T
import Derived.OpenShut
import Derived.ProofKit
import Derived.Shelf.Vars
import Derived.SliceStrings
import Derived.Test.YtjlliohjeiclaaaGreatDoorCards
import Derived.Test.YtjlliohjeiclaaaGreatDoorKE1
import Derived.Test.YtjlliohjeiclaaaGreatDoorKE14
import Derived.Test.YtjlliohjeiclaaaGreatDoorKE17
import Derived.Test.YtjlliohjeiclaaaGreatDoorKE19
import Derived.Test.YtjlliohjeiclaaaGreatDoorKE2
import Derived.Test.YtjlliohjeiclaaaGreatDoorKE5
import Derived.Test.YtjlliohjeiclaaaGreatDoorKE6
import Derived.Test.YtjlliohjeiclaaaGreatDoorKE8
import Derived.Test.YtjlliohjeiclaaaGreatDoorTie
namespace Go.Proofs.YtjlliohjeiclaaaGreatDoor
open Go.RowKit St Pm
theorem hasE_none {l : List Ev} {x : Ev} (h : ∀ y ∈ l, y ≠ x) : hasE l x = false := by
 rw [hasE_not]
 intro hx
 exact h x hx rfl
theorem hasE_some {l : List Ev} {x : Ev} {k : Nat} (hk : k < l.length) (h : l[k] = x) : hasE l x = true := by
 rw [hasE_iff, ← h]
 exact List.getElem_mem hk
set_option maxRecDepth 100000 in
set_option maxHeartbeats 2000000 in
theorem ref11_has (l : List Ev) (s : Ev) (a : Option Addr) (n c : Nat) (w : World) (hl : CellsAt w a (elsV l)) (hn : n = l.length) (hb : n ≤ 9223372036854775807) :
 Calls Tryz.prog 70 #[.slice a n c, .agg #[.int .i64 s.1.g, .int .i64 s.1.r, .string s.1.l, .int .i64 s.1.n, .int .i64 s.1.i, .string s.2]] w fun e w' => e = .returned (.bool (hasE l s)) ∧ Below w.heap.size w w' := by
 have X := heap_alloc_new w (.cells #[.int .i64 s.1.g, .int .i64 s.1.r, .string s.1.l, .int .i64 s.1.n, .int .i64 s.1.i, .string s.2] 53)
 have B0 := below_new w (.cells #[.int .i64 s.1.g, .int .i64 s.1.r, .string s.1.l, .int .i64 s.1.n, .int .i64 s.1.i, .string s.2] 53)
 have HL := Lib.hid (hl.below B0 rfl)
 clear hl
 have EN := ev_eql
 have F0 : Hid ((∀ y ∈ l.take n, y ≠ s) → hasE l s = false) := Lib.hid (fun h => hasE_none (by rw [hn, List.take_length] at h; exact h))
 have F1 : Hid (∀ k (h1 : k < l.length), l[k] = s → hasE l s = true) := Lib.hid (fun k h1 h => hasE_some h1 h)
 generalize hasE l s = res at *
 go_enter Tryz.func70, Tryz.ntmps70
 go_wp2_with fail
 generalize w.alloc (.cells #[.int .i64 s.1.g, .int .i64 s.1.r, .string s.1.l, .int .i64 s.1.n, .int .i64 s.1.i, .string s.2] 53) = W at *
 have X0 := Lib.hid X
 have B1 := Lib.hid B0
 clear X B0
 go_loopw [5] (fun i wr => ∃ k : Nat, k ≤ n ∧ i = .int .i64 (k : Int) ∧ Hid (∀ y ∈ l.take k, y ≠ s) ∧ Hid (Below W.heap.size W wr)) (fun i _ => n - (intOf i).toNat)
 case atStart => exact ⟨0, Nat.zero_le _, rfl, Lib.hid (fun y hy => (by cases hy)), Lib.hid (Below.refl _ _)⟩
 case round =>
  obtain ⟨k, hk, rfl, HT, HB⟩ := hrel
  by_cases hlt : k < n
  · have hk1 : k < l.length := by omega
    obtain ⟨ba, oa, rfl, ca⟩ := els_get (HL.out.below HB.out rfl) k hk1
    obtain ⟨p0, p1, p2, p3, p4, p5⟩ := ca
    have G1 : Hid (l[k] = s → res = true) := Lib.hid (F1.out k hk1)
    have G2 : Hid (l[k] ≠ s → ∀ y ∈ l.take (k + 1), y ≠ s) := Lib.hid (fun h => take_none hk1 HT.out h)
    generalize l[k] = x at *
    have y1 := boxStays X0.out HB.out
    have q0 := cell_of_row _ _ 0 _ _ _ y1
    have q1 := cell_of_row _ _ 1 _ _ _ y1
    have q2 := cell_of_row _ _ 2 _ _ _ y1
    have q3 := cell_of_row _ _ 3 _ _ _ y1
    have q4 := cell_of_row _ _ 4 _ _ _ y1
    have q5 := cell_of_row _ _ 5 _ _ _ y1
    clear y1
    have hki : (k : Int) < (n : Int) := by omega
    by_cases hxy : x = s
    · have hr := Lib.hid (G1.out hxy)
      have hd : decide (x = s) = true := decide_eq_true hxy
      clear hxy
      go_wp2_with fail
      go_quiet (fail)
      go_wp2_with fail
      go_ret
      rw [hr.out]
      exact ⟨rfl, B1.out.trans ((below_drews HB.out _).mono B1.out.size)⟩
    · have H := Lib.hid (G2.out hxy)
      have hd : decide (x = s) = false := decide_eq_false hxy
      clear hxy
      go_wp2_with fail
      go_quiet (fail)
      go_wp2_with fail
      refine ⟨⟨k + 1, by omega, by go_num, H, Lib.hid (below_drews HB.out _)⟩, by simp [intOf]; omega⟩
  · obtain rfl : k = n := by omega
    have hr := Lib.hid (F0.out HT.out)
    go_wp2_with fail
    go_ret
    rw [hr.out]
    exact ⟨rfl, B1.out.trans (HB.out.mono B1.out.size)⟩
theorem filter_next {p : Ev → Bool} {l : List Ev} {k : Nat} (hk : k < l.length) : (p l[k] = true → (l.take (k + 1)).filter p = (l.take k).filter p ++ [l[k]]) ∧ (p l[k] = false → (l.take (k + 1)).filter p = (l.take k).filter p) := by
 rw [List.take_succ_eq_append_getElem hk, List.filter_append]
 constructor
 · intro h
   rw [List.filter_cons, if_pos h]
   rfl
 · intro h
   rw [List.filter_cons, if_neg (by rw [h]; simp)]
   simp
set_option maxRecDepth 100000 in
set_option maxHeartbeats 8000000 in
theorem ref11_Three (ls la lo : List Ev) (a1 a2 a3 : Option Addr) (n1 n2 n3 c1 c2 c3 : Nat) (w : World) (h1 : CellsAt w a1 (elsV ls)) (h2 : CellsAt w a2 (elsV la)) (h3 : CellsAt w a3 (elsV lo)) (hn1 : n1 = ls.length) (hn2 : n2 = la.length) (hn3 : n3 = lo.length)
 (b1 : n1 ≤ 100000) (b2 : n2 ≤ 100000) (b3 : n3 ≤ 100000) (z2 : ∀ e ∈ la, e.1.l.size ≤ 9223372036854775807) (z3 : ∀ e ∈ lo, e.1.l.size ≤ 9223372036854775807) :
 Calls Tryz.prog 29 #[.slice a1 n1 c1, .slice a2 n2 c2, .slice a3 n3 c3] w fun e w' => ∃ v, e = .returned v ∧ w'.ownsRow w.heap.size 53 6 v (thrB ls la lo).length (elsV (sortV (thrB ls la lo))) ∧ Below w.heap.size w w' := by
 have H1 := Lib.hid h1
 have H2 := Lib.hid h2
 have H3 := Lib.hid h3
 have N1 := Lib.hid hn1
 have N2 := Lib.hid hn2
 have N3 := Lib.hid hn3
 have ZB : Hid (∀ e ∈ thrB ls la lo, e.1.l.size ≤ 9223372036854775807) := Lib.hid (fun e he => by
  rcases (thrB_mem.1 he) with h | h
  · exact z2 e h.1
  · exact z3 e h.1)
 have ET := Lib.hid elT
 have HAS1 := Lib.hid (fun W (hW : Below w.heap.size w W) x => ref11_has ls x a1 n1 c1 W (h1.below hW rfl) hn1 (by omega))
 have HAS2 := Lib.hid (fun W (hW : Below w.heap.size w W) x => ref11_has la x a2 n2 c2 W (h2.below hW rfl) hn2 (by omega))
 have HAS3 := Lib.hid (fun W (hW : Below w.heap.size w W) x => ref11_has lo x a3 n3 c3 W (h3.below hW rfl) hn3 (by omega))
 obtain ⟨P1, hP1⟩ : ∃ P : Ev → Bool, (fun x => hasE lo x || !hasE ls x) = P := ⟨_, rfl⟩
 obtain ⟨P2, hP2⟩ : ∃ P : Ev → Bool, (fun x => !hasE la x && !hasE ls x) = P := ⟨_, rfl⟩
 have Q1 : Hid (∀ x, P1 x = (hasE lo x || !hasE ls x)) := Lib.hid (fun x => by rw [← hP1])
 have Q2 : Hid (∀ x, P2 x = (!hasE la x && !hasE ls x)) := Lib.hid (fun x => by rw [← hP2])
 have TB : Hid (thrB ls la lo = la.filter P1 ++ lo.filter P2) := Lib.hid (by unfold thrB; rw [hP1, hP2])
 have PRE : Hid (∀ k, (la.filter P1 ++ (lo.take k).filter P2).length ≤ 200000) := Lib.hid (fun k => by
  rw [List.length_append]
  have e1 := List.length_filter_le P1 la
  have e2 := List.length_filter_le P2 (lo.take k)
  have e3 := List.length_take (i := k) (l := lo)
  omega)
 have PRA : Hid (∀ k, ((la.take k).filter P1).length ≤ 200000) := Lib.hid (fun k => by
  have e2 := List.length_filter_le P1 (la.take k)
  have e3 := List.length_take (i := k) (l := la)
  omega)
 clear h1 h2 h3 hn1 hn2 hn3 z2 z3 hP1 hP2
 go_enter Tryz.func29, Tryz.ntmps29
 go_wp2_with fail
 go_loopw [7, 8] (fun ov i wr => ∃ (k : Nat) (wq : World) (av : Option Addr) (an ac : Nat), wq = wr ∧ i = .int .i64 (k : Int) ∧ k ≤ n2 ∧ ov = .slice av an ac ∧ Hid (an = ((la.take k).filter P1).length) ∧ Hid (wq.ownsRow w.heap.size 53 6 (.slice av an ac) an (elsV ((la.take k).filter P1))) ∧ Hid (Below w.heap.size w wq)) (fun _ i _ => n2 - (intOf i).toNat)
 case atStart => exact ⟨0, _, none, 0, 0, rfl, rfl, Nat.zero_le _, rfl, Lib.hid rfl, Lib.hid ⟨rfl, Or.inl ⟨rfl, rfl⟩⟩, Lib.hid (Below.refl _ _)⟩
 case round =>
  obtain ⟨k, wq, av, an, ac, rfl, rfl, hk, rfl, HAN, HO, HB⟩ := hrel
  by_cases hlt : k < n2
  · have hki : (k : Int) < (n2 : Int) := by omega
    have hk1 : k < la.length := by have := N2.out; omega
    obtain ⟨ba, oa, ha, ca⟩ := els_get (H2.out.below HB.out rfl) k hk1
    subst ha
    have FT : Hid (P1 la[k] = true → (la.take (k + 1)).filter P1 = (la.take k).filter P1 ++ [la[k]]) := Lib.hid (fun h => by rw [(filter_next hk1).1 h])
    have FF : Hid (P1 la[k] = false → (la.take (k + 1)).filter P1 = (la.take k).filter P1) := Lib.hid (fun h => by rw [(filter_next hk1).2 h])
    have HE := Lib.hid ca
    have AN : Hid (an ≤ 200000) := Lib.hid (by rw [HAN.out]; exact PRA.out k)
    obtain ⟨p0, p1, p2, p3, p4, p5⟩ := ca
    generalize la[k] = x at *
    obtain ⟨out, hout⟩ : ∃ o, (la.take k).filter P1 = o := ⟨_, rfl⟩
    rw [hout] at HAN HO FT FF
    clear hout
    cases e1 : hasE lo x
    case false =>
     have C1 := Lib.hid (HAS3.out wq HB.out x)
     rw [e1] at C1
     go_wp2_with fail
     refine C1.out.mono ?_
     rintro e wy ⟨rfl, hby⟩
     clear C1 p0 p1 p2 p3 p4 p5
     cases e2 : hasE ls x
     case false =>
      have hbY := Lib.hid (HB.out.trans (hby.mono HB.out.size))
      obtain ⟨p0, p1, p2, p3, p4, p5⟩ := HE.out.below hby
      have C2 := Lib.hid (HAS1.out wy hbY.out x)
      rw [e2] at C2
      have HBY := Lib.hid hby
      clear hby
      go_wp2_with fail
      refine C2.out.mono ?_
      rintro e wz ⟨rfl, hbz⟩
      have hbW := HBY.out.trans (hbz.mono HBY.out.size)
      clear C2 hbz p0 p1 p2 p3 p4 p5 HBY hbY
      have HE2 := Lib.hid (HE.out.below hbW)
      have HO2 := Lib.hid (own_below HO.out hbW (fun k hk => (HO.out.lt k hk).2))
      have HB2 := Lib.hid (HB.out.trans (hbW.mono HB.out.size))
      have BB := Lib.hid HB2.out.size
      have SN := Lib.hid (FT.out (by rw [Q1.out, e1, e2]; rfl))
      obtain ⟨p0, p1, p2, p3, p4, p5⟩ := HE2.out
      clear hbW FT FF e1 e2
      go_wp2_with (at_builtin; go_must (refine wpList_app rfl _ _ 22 22 rfl w.heap.size 53 _ 6 64 ET.out (.slice av an ac) an (elsV out) rfl (HO2.out.alloc _) _ 1 (elV x) rfl ((CellsAt.new _ 53 (0, 0) (elV x)).srcN rfl (fun u hu => elsV_one [x] u (by simpa [elsV] using hu)) Tryz.underlying22 1 (by decide)) (by have := AN.out; omega) (by have := AN.out; omega) (by have := BB.out; simp; omega) ?_); go_must (intro v10 w10 hown hgr10 hbel hor); go_must (obtain ⟨a10, c10, rfl, _⟩ := own_slice hown); have OW10 := Lib.hid hown; have B10 : Hid (Below w.heap.size w w10) := Lib.hid (HB2.out.trans (((below_new wz (.cells #[.int .i64 x.1.g, .int .i64 x.1.r, .string x.1.l, .int .i64 x.1.n, .int .i64 x.1.i, .string x.2] 53)).mono HB2.out.size).trans hbel)); clear hown hgr10 hbel hor p0 p1 p2 p3 p4 p5)
      go_roundw
      case rel => exact ⟨k + 1, _, a10, an + 1, c10, rfl, by go_num, by omega, rfl, Lib.hid (by rw [SN.out, List.length_append, ← HAN.out]; rfl), Lib.hid (by rw [SN.out, elsV_append]; simpa [elsV] using OW10.out), B10⟩
      case measure => simp [intOf]; omega
     case true =>
      have hbY := Lib.hid (HB.out.trans (hby.mono HB.out.size))
      obtain ⟨p0, p1, p2, p3, p4, p5⟩ := HE.out.below hby
      have C2 := Lib.hid (HAS1.out wy hbY.out x)
      rw [e2] at C2
      have HBY := Lib.hid hby
      clear hby
      go_wp2_with fail
      refine C2.out.mono ?_
      rintro e wz ⟨rfl, hbz⟩
      have hbW := HBY.out.trans (hbz.mono HBY.out.size)
      clear C2 hbz p0 p1 p2 p3 p4 p5 HBY hbY
      have HO2 := Lib.hid (own_below HO.out hbW (fun k hk => (HO.out.lt k hk).2))
      have HB2 := Lib.hid (HB.out.trans (hbW.mono HB.out.size))
      have SN := Lib.hid (FF.out (by rw [Q1.out, e1, e2]; rfl))
      clear hbW FT FF e1 e2
      go_wp2_with fail
      go_roundw
      case rel => exact ⟨k + 1, _, av, an, ac, rfl, by go_num, by omega, rfl, by rw [SN.out]; exact HAN, by rw [SN.out]; exact HO2, HB2⟩
      case measure => simp [intOf]; omega
    case true =>
     have C1 := Lib.hid (HAS3.out wq HB.out x)
     rw [e1] at C1
     go_wp2_with fail
     refine C1.out.mono ?_
     rintro e wy ⟨rfl, hby⟩
     clear C1 p0 p1 p2 p3 p4 p5
     obtain ⟨wz, hwz⟩ : ∃ W, W = wy := ⟨_, rfl⟩
     subst hwz
     have hbW := hby
     have e2 := e1
     have HE2 := Lib.hid (HE.out.below hbW)
     have HO2 := Lib.hid (own_below HO.out hbW (fun k hk => (HO.out.lt k hk).2))
     have HB2 := Lib.hid (HB.out.trans (hbW.mono HB.out.size))
     have BB := Lib.hid HB2.out.size
     have SN := Lib.hid (FT.out (by rw [Q1.out, e1]; rfl))
     obtain ⟨p0, p1, p2, p3, p4, p5⟩ := HE2.out
     clear hbW FT FF e1 e2
     go_wp2_with (at_builtin; go_must (refine wpList_app rfl _ _ 22 22 rfl w.heap.size 53 _ 6 64 ET.out (.slice av an ac) an (elsV out) rfl (HO2.out.alloc _) _ 1 (elV x) rfl ((CellsAt.new _ 53 (0, 0) (elV x)).srcN rfl (fun u hu => elsV_one [x] u (by simpa [elsV] using hu)) Tryz.underlying22 1 (by decide)) (by have := AN.out; omega) (by have := AN.out; omega) (by have := BB.out; simp; omega) ?_); go_must (intro v10 w10 hown hgr10 hbel hor); go_must (obtain ⟨a10, c10, rfl, _⟩ := own_slice hown); have OW10 := Lib.hid hown; have B10 : Hid (Below w.heap.size w w10) := Lib.hid (HB2.out.trans (((below_new wz (.cells #[.int .i64 x.1.g, .int .i64 x.1.r, .string x.1.l, .int .i64 x.1.n, .int .i64 x.1.i, .string x.2] 53)).mono HB2.out.size).trans hbel)); clear hown hgr10 hbel hor p0 p1 p2 p3 p4 p5)
     go_roundw
     case rel => exact ⟨k + 1, _, a10, an + 1, c10, rfl, by go_num, by omega, rfl, Lib.hid (by rw [SN.out, List.length_append, ← HAN.out]; rfl), Lib.hid (by rw [SN.out, elsV_append]; simpa [elsV] using OW10.out), B10⟩
     case measure => simp [intOf]; omega
  · obtain rfl : k = n2 := by omega
    have hki : ¬ (k : Int) < (k : Int) := by omega
    have e : la.take k = la := List.take_of_length_le (by rw [N2.out]; exact Nat.le_refl _)
    rw [e] at HAN HO
    clear e
    go_wp2_with fail
    go_loopw [7, 9] (fun ov i wr => ∃ (k : Nat) (wq : World) (av : Option Addr) (an ac : Nat), wq = wr ∧ i = .int .i64 (k : Int) ∧ k ≤ n3 ∧ ov = .slice av an ac ∧ Hid (an = (la.filter P1 ++ (lo.take k).filter P2).length) ∧ Hid (wq.ownsRow w.heap.size 53 6 (.slice av an ac) an (elsV (la.filter P1 ++ (lo.take k).filter P2))) ∧ Hid (Below w.heap.size w wq)) (fun _ i _ => n3 - (intOf i).toNat)
    case atStart => exact ⟨0, _, av, an, ac, rfl, rfl, Nat.zero_le _, rfl, Lib.hid (by rw [HAN.out]; simp), Lib.hid (by simpa using HO.out), HB⟩
    case round =>
     obtain ⟨k, wq, av, an, ac, rfl, rfl, hk, rfl, HAN, HO, HB⟩ := hrel
     by_cases hlt : k < n3
     · have hki : (k : Int) < (n3 : Int) := by omega
       have hk1 : k < lo.length := by have := N3.out; omega
       obtain ⟨ba, oa, ha, ca⟩ := els_get (H3.out.below HB.out rfl) k hk1
       subst ha
       have FT : Hid (P2 lo[k] = true → la.filter P1 ++ (lo.take (k + 1)).filter P2 = la.filter P1 ++ (lo.take k).filter P2 ++ [lo[k]]) := Lib.hid (fun h => by rw [(filter_next hk1).1 h]; simp)
       have FF : Hid (P2 lo[k] = false → la.filter P1 ++ (lo.take (k + 1)).filter P2 = la.filter P1 ++ (lo.take k).filter P2) := Lib.hid (fun h => by rw [(filter_next hk1).2 h])
       have HE := Lib.hid ca
       have AN : Hid (an ≤ 200000) := Lib.hid (by rw [HAN.out]; exact PRE.out k)
       obtain ⟨p0, p1, p2, p3, p4, p5⟩ := ca
       generalize lo[k] = x at *
       obtain ⟨out, hout⟩ : ∃ o, la.filter P1 ++ (lo.take k).filter P2 = o := ⟨_, rfl⟩
       rw [hout] at HAN HO FT FF
       clear hout
       cases e1 : hasE la x
       case false =>
        have C1 := Lib.hid (HAS2.out wq HB.out x)
        rw [e1] at C1
        go_wp2_with fail
        refine C1.out.mono ?_
        rintro e wy ⟨rfl, hby⟩
        clear C1 p0 p1 p2 p3 p4 p5
        cases e2 : hasE ls x
        case false =>
         have hbY := Lib.hid (HB.out.trans (hby.mono HB.out.size))
         obtain ⟨p0, p1, p2, p3, p4, p5⟩ := HE.out.below hby
         have C2 := Lib.hid (HAS1.out wy hbY.out x)
         rw [e2] at C2
         have HBY := Lib.hid hby
         clear hby
         go_wp2_with fail
         refine C2.out.mono ?_
         rintro e wz ⟨rfl, hbz⟩
         have hbW := HBY.out.trans (hbz.mono HBY.out.size)
         clear C2 hbz p0 p1 p2 p3 p4 p5 HBY hbY
         have HE2 := Lib.hid (HE.out.below hbW)
         have HO2 := Lib.hid (own_below HO.out hbW (fun k hk => (HO.out.lt k hk).2))
         have HB2 := Lib.hid (HB.out.trans (hbW.mono HB.out.size))
         have BB := Lib.hid HB2.out.size
         have SN := Lib.hid (FT.out (by rw [Q2.out, e1, e2]; rfl))
         obtain ⟨p0, p1, p2, p3, p4, p5⟩ := HE2.out
         clear hbW FT FF e1 e2
         go_wp2_with (at_builtin; go_must (refine wpList_app rfl _ _ 22 22 rfl w.heap.size 53 _ 6 64 ET.out (.slice av an ac) an (elsV out) rfl (HO2.out.alloc _) _ 1 (elV x) rfl ((CellsAt.new _ 53 (0, 0) (elV x)).srcN rfl (fun u hu => elsV_one [x] u (by simpa [elsV] using hu)) Tryz.underlying22 1 (by decide)) (by have := AN.out; omega) (by have := AN.out; omega) (by have := BB.out; simp; omega) ?_); go_must (intro v10 w10 hown hgr10 hbel hor); go_must (obtain ⟨a10, c10, rfl, _⟩ := own_slice hown); have OW10 := Lib.hid hown; have B10 : Hid (Below w.heap.size w w10) := Lib.hid (HB2.out.trans (((below_new wz (.cells #[.int .i64 x.1.g, .int .i64 x.1.r, .string x.1.l, .int .i64 x.1.n, .int .i64 x.1.i, .string x.2] 53)).mono HB2.out.size).trans hbel)); clear hown hgr10 hbel hor p0 p1 p2 p3 p4 p5)
         go_roundw
         case rel => exact ⟨k + 1, _, a10, an + 1, c10, rfl, by go_num, by omega, rfl, Lib.hid (by rw [SN.out, List.length_append, ← HAN.out]; rfl), Lib.hid (by rw [SN.out, elsV_append]; simpa [elsV] using OW10.out), B10⟩
         case measure => simp [intOf]; omega
        case true =>
         have hbY := Lib.hid (HB.out.trans (hby.mono HB.out.size))
         obtain ⟨p0, p1, p2, p3, p4, p5⟩ := HE.out.below hby
         have C2 := Lib.hid (HAS1.out wy hbY.out x)
         rw [e2] at C2
         have HBY := Lib.hid hby
         clear hby
         go_wp2_with fail
         refine C2.out.mono ?_
         rintro e wz ⟨rfl, hbz⟩
         have hbW := HBY.out.trans (hbz.mono HBY.out.size)
         clear C2 hbz p0 p1 p2 p3 p4 p5 HBY hbY
         have HO2 := Lib.hid (own_below HO.out hbW (fun k hk => (HO.out.lt k hk).2))
         have HB2 := Lib.hid (HB.out.trans (hbW.mono HB.out.size))
         have SN := Lib.hid (FF.out (by rw [Q2.out, e1, e2]; rfl))
         clear hbW FT FF e1 e2
         go_wp2_with fail
         go_roundw
         case rel => exact ⟨k + 1, _, av, an, ac, rfl, by go_num, by omega, rfl, by rw [SN.out]; exact HAN, by rw [SN.out]; exact HO2, HB2⟩
         case measure => simp [intOf]; omega
       case true =>
        have C1 := Lib.hid (HAS2.out wq HB.out x)
        rw [e1] at C1
        go_wp2_with fail
        refine C1.out.mono ?_
        rintro e wy ⟨rfl, hby⟩
        clear C1 p0 p1 p2 p3 p4 p5
        obtain ⟨wz, hwz⟩ : ∃ W, W = wy := ⟨_, rfl⟩
        subst hwz
        have hbW := hby
        have e2 := e1
        have HO2 := Lib.hid (own_below HO.out hbW (fun k hk => (HO.out.lt k hk).2))
        have HB2 := Lib.hid (HB.out.trans (hbW.mono HB.out.size))
        have SN := Lib.hid (FF.out (by rw [Q2.out, e1]; rfl))
        clear hbW FT FF e1 e2
        go_wp2_with fail
        go_roundw
        case rel => exact ⟨k + 1, _, av, an, ac, rfl, by go_num, by omega, rfl, by rw [SN.out]; exact HAN, by rw [SN.out]; exact HO2, HB2⟩
        case measure => simp [intOf]; omega
     · obtain rfl : k = n3 := by omega
       have hki : ¬ (k : Int) < (k : Int) := by omega
       have e : lo.take k = lo := List.take_of_length_le (by rw [N3.out]; exact Nat.le_refl _)
       rw [e, ← TB.out] at HAN HO
       have S := Lib.hid (ref11_Sorted (thrB ls la lo) av an ac wq (CellsAt.ownN HO.out) HAN.out (by have := TB.out; have h1 := PRE.out k; rw [e, ← this] at h1; have := HAN.out; omega) ZB.out)
       go_wp2_with fail
       refine S.out.mono ?_
       rintro e w9 ⟨v, rfl, hown, hb⟩
       have OW := Lib.hid hown
       have HB9 := Lib.hid (HB.out.trans (hb.mono HB.out.size))
       have HS9 := Lib.hid HB.out.size
       clear hown hb S
       go_wp2_with fail
       go_ret
       refine ⟨v, rfl, ?_, HB9.out⟩
       rw [← HAN.out]
       exact own_mono OW.out HS9.out
end Go.Proofs.YtjlliohjeiclaaaGreatDoor
namespace Go.Proofs.YtjlliohjeiclaaaGreatDoor
open Go.RowKit St Pm
set_option maxRecDepth 100000 in
set_option maxHeartbeats 2000000 in
theorem ts_Three {B0 A0 O0 : ByteArray → ByteArray × Bool} (s a o : Tr ByteArray) (w : World) (zs : sz s ≤ 100000) (za : sz a ≤ 100000) (zo : sz o ≤ 100000) (hI : WlkI (⟨#[]⟩ : ByteArray) B0 A0 O0 (fun _ => True) s a o) (hs : AtS w s) (ha : AtS w a) (ho : AtS w o)
 (ks : ∀ p ∈ items s, p.1.size ≤ 70368744177663) (ka : ∀ p ∈ items a, p.1.size ≤ 70368744177663) (ko : ∀ p ∈ items o, p.1.size ≤ 70368744177663) :
 Calls Tryz.prog 25 #[.agg #[.pointer (pa s)], .agg #[.pointer (pa a)], .agg #[.pointer (pa o)]] w fun e w' =>
  ∃ (m : Tr ByteArray) (c : Int), e = .returned (.tuple #[.agg #[.pointer (pa m)], .int .i64 c]) ∧ AtS w' m ∧ Below w.heap.size w w' ∧
   (((items s).all goodT = true ∧ (items a).all goodT = true ∧ (items o).all goodT = true ∧ c = 0 ∧ ∃ asked, WlkO (⟨#[]⟩ : ByteArray) (fun k => keepFS (B0 k) (A0 k) (O0 k)) B0 A0 O0 (fun _ => True) s a o m asked ∧ TopWS s a o m asked) ∨
    (((items s).all goodT && ((items a).all goodT && (items o).all goodT)) = false ∧ c = 2 ∧ m = .nil)) := by
 obtain ⟨z, hz0⟩ : ∃ z, w.heap.size = z := ⟨_, rfl⟩
 have MS := Lib.hid (fun W (hW : Below w.heap.size w W) => ts_May s W (hs.below hW rfl) zs ks)
 have MA := Lib.hid (fun W (hW : Below w.heap.size w W) => ts_May a W (ha.below hW rfl) za ka)
 have MO := Lib.hid (fun W (hW : Below w.heap.size w W) => ts_May o W (ho.below hW rfl) zo ko)
 have EL := Lib.hid (fun W (hW : Below w.heap.size w W) => wk_ElementsS s a o W (by omega) (by omega) hI (hs.below hW rfl) (ha.below hW rfl) (ho.below hW rfl))
 obtain ⟨g1, hg1⟩ : ∃ g, (items s).all goodT = g := ⟨_, rfl⟩
 obtain ⟨g2, hg2⟩ : ∃ g, (items a).all goodT = g := ⟨_, rfl⟩
 obtain ⟨g3, hg3⟩ : ∃ g, (items o).all goodT = g := ⟨_, rfl⟩
 rw [hg1] at MS ⊢
 rw [hg2] at MA ⊢
 rw [hg3] at MO ⊢
 clear hs ha ho ks ka ko hI hg1 hg2 hg3
 go_enter Tryz.func25, Tryz.ntmps25
 go_upto_region 1 with (fail)
 obtain ⟨w4, hw4⟩ : ∃ W, allocs w [.cells #[.pointer (pa s)] 27, .cells #[.pointer (pa a)] 27, .cells #[.pointer (pa o)] 27, .cells #[.pointer none] 27] = W := ⟨_, rfl⟩
 rw [show (((w.alloc (.cells #[.pointer (pa s)] 27)).alloc (.cells #[.pointer (pa a)] 27)).alloc (.cells #[.pointer (pa o)] 27)).alloc (.cells #[.pointer none] 27) = w4 from hw4]
 have hb4 : Below w.heap.size w w4 := by rw [← hw4]; exact allocs_below _ _
 have hx4 : ∀ i ob, [Obj.cells #[.pointer (pa s)] 27, .cells #[.pointer (pa a)] 27, .cells #[.pointer (pa o)] 27, .cells #[.pointer none] 27][i]? = some ob → w4.heap[z + i]? = some ob := fun i ob h => by have := allocs_get _ w i ob h; rw [hw4, hz0] at this; exact this
 have y0 : Boxed w4 z 27 (.pointer (pa s)) := hx4 0 _ rfl
 have y1 : Boxed w4 (z + 1) 27 (.pointer (pa a)) := hx4 1 _ rfl
 have y2 : Boxed w4 (z + 1 + 1) 27 (.pointer (pa o)) := hx4 2 _ rfl
 have y3 : Boxed w4 (z + 1 + 1 + 1) 27 (.pointer none) := hx4 3 _ rfl
 have Y0 := Lib.hid y0
 have Y1 := Lib.hid y1
 have Y2 := Lib.hid y2
 have Y3 := Lib.hid y3
 have B4 := Lib.hid hb4
 clear y0 y1 y2 y3 hx4 hw4 hb4
 have k0 := cell_of_one Y0.out
 go_wp2_with fail
 refine (MS.out _ B4.out).mono ?_
 rintro e w5 ⟨rfl, hb5⟩
 have P5 := Lib.hid hb5
 have Q5 := Lib.hid (B4.out.trans (hb5.mono B4.out.size))
 clear hb5 k0
 cases g1
 case false =>
  have k3 := cell_of_one (boxStays Y3.out P5.out)
  have f3 := frozen_of_row _ (z + 1 + 1 + 1) 0 _ _ (boxStays Y3.out P5.out)
  have c4 : ∀ u, (w5.setCell ⟨z + 1 + 1 + 1, 0, none⟩ u).cell? ⟨z + 1 + 1 + 1, 0, none⟩ = some u := fun u => cell_of_one (Boxed.set (t := 27) u (boxStays Y3.out P5.out))
  go_wp2_with fail
  exact bodyPost_ret (v := .tuple #[.agg #[.pointer none], .int .i64 2]) (by simp [results, Tryz.results25, go_sem, c4]) rfl ⟨.nil, 2, rfl, trivial, (by first | exact Q5.out.setCell (p := ⟨z + 1 + 1 + 1, 0, none⟩) (by simp; omega) _ | exact (show Below z w w5 from (by rw [← hz0]; exact Q5.out)).setCell (p := ⟨z + 1 + 1 + 1, 0, none⟩) (by simp; omega) _), (by first | exact .inr ⟨by simp, rfl, rfl⟩ | exact ⟨rfl, rfl⟩)⟩
 case true =>
  have k1 := cell_of_one (boxStays Y1.out P5.out)
  go_wp2_with fail
  refine (MA.out _ Q5.out).mono ?_
  rintro e w6 ⟨rfl, hb6⟩
  have P6 := Lib.hid (P5.out.trans (hb6.mono P5.out.size))
  have Q6 := Lib.hid (Q5.out.trans (hb6.mono Q5.out.size))
  clear hb6 k1
  cases g2
  case false =>
   have k3 := cell_of_one (boxStays Y3.out P6.out)
   have f3 := frozen_of_row _ (z + 1 + 1 + 1) 0 _ _ (boxStays Y3.out P6.out)
   have c4 : ∀ u, (w6.setCell ⟨z + 1 + 1 + 1, 0, none⟩ u).cell? ⟨z + 1 + 1 + 1, 0, none⟩ = some u := fun u => cell_of_one (Boxed.set (t := 27) u (boxStays Y3.out P6.out))
   go_wp2_with fail
   exact bodyPost_ret (v := .tuple #[.agg #[.pointer none], .int .i64 2]) (by simp [results, Tryz.results25, go_sem, c4]) rfl ⟨.nil, 2, rfl, trivial, (by first | exact Q6.out.setCell (p := ⟨z + 1 + 1 + 1, 0, none⟩) (by simp; omega) _ | exact (show Below z w w6 from (by rw [← hz0]; exact Q6.out)).setCell (p := ⟨z + 1 + 1 + 1, 0, none⟩) (by simp; omega) _), (by first | exact .inr ⟨by simp, rfl, rfl⟩ | exact ⟨rfl, rfl⟩)⟩
  case true =>
   have k2 := cell_of_one (boxStays Y2.out P6.out)
   go_wp2_with fail
   refine (MO.out _ Q6.out).mono ?_
   rintro e w7 ⟨rfl, hb7⟩
   have P7 := Lib.hid (P6.out.trans (hb7.mono P6.out.size))
   have Q7 := Lib.hid (Q6.out.trans (hb7.mono Q6.out.size))
   clear hb7 k2
   cases g3
   case false =>
    have k3 := cell_of_one (boxStays Y3.out P7.out)
    have f3 := frozen_of_row _ (z + 1 + 1 + 1) 0 _ _ (boxStays Y3.out P7.out)
    have c4 : ∀ u, (w7.setCell ⟨z + 1 + 1 + 1, 0, none⟩ u).cell? ⟨z + 1 + 1 + 1, 0, none⟩ = some u := fun u => cell_of_one (Boxed.set (t := 27) u (boxStays Y3.out P7.out))
    go_wp2_with fail
    exact bodyPost_ret (v := .tuple #[.agg #[.pointer none], .int .i64 2]) (by simp [results, Tryz.results25, go_sem, c4]) rfl ⟨.nil, 2, rfl, trivial, (by first | exact Q7.out.setCell (p := ⟨z + 1 + 1 + 1, 0, none⟩) (by simp; omega) _ | exact (show Below z w w7 from (by rw [← hz0]; exact Q7.out)).setCell (p := ⟨z + 1 + 1 + 1, 0, none⟩) (by simp; omega) _), (by first | exact .inr ⟨by simp, rfl, rfl⟩ | exact ⟨rfl, rfl⟩)⟩
   case true =>
    have k0 := cell_of_one (boxStays Y0.out P7.out)
    have k1 := cell_of_one (boxStays Y1.out P7.out)
    have k2 := cell_of_one (boxStays Y2.out P7.out)
    go_wp2_with fail
    refine (EL.out _ Q7.out).mono ?_
    rintro e w8 ⟨m, asked, made, rfl, hO, hm, _, _, hb8, hT⟩
    have P8 := Lib.hid (P7.out.trans (hb8.mono P7.out.size))
    have Q8 := Lib.hid (Q7.out.trans (hb8.mono Q7.out.size))
    have HO := Lib.hid hO
    have HT := Lib.hid hT
    have HM := Lib.hid hm
    clear hb8 k0 k1 k2 hO hT hm
    have bb : ∀ o1 o2 : Obj, Below w8.heap.size w8 ((w8.alloc o1).alloc o2) := fun o1 o2 => (below_new _ _).trans ((below_new _ _).mono (by simp))
    have yy : ∀ o1 o2 : Obj, Boxed ((w8.alloc o1).alloc o2) (z + 1 + 1 + 1) 27 (.pointer none) := fun o1 o2 => boxStays (boxStays Y3.out P8.out) (bb o1 o2)
    have k3 : ∀ o1 o2 : Obj, ((w8.alloc o1).alloc o2).cell? ⟨z + 1 + 1 + 1, 0, none⟩ = some (.pointer none) := fun o1 o2 => cell_of_one (yy o1 o2)
    have f3 : ∀ o1 o2 : Obj, ((w8.alloc o1).alloc o2).frozen? ⟨z + 1 + 1 + 1, 0, none⟩ = false := fun o1 o2 => frozen_of_row _ (z + 1 + 1 + 1) 0 _ _ (yy o1 o2)
    have c4 : ∀ (o1 o2 : Obj) u, (((w8.alloc o1).alloc o2).setCell ⟨z + 1 + 1 + 1, 0, none⟩ u).cell? ⟨z + 1 + 1 + 1, 0, none⟩ = some u := fun o1 o2 u => cell_of_one (Boxed.set (t := 27) u (yy o1 o2))
    have at4 : Hid (∀ (o1 o2 : Obj) u, AtS (((w8.alloc o1).alloc o2).setCell ⟨z + 1 + 1 + 1, 0, none⟩ u) m) := Lib.hid (fun o1 o2 u => (HM.out.below (bb o1 o2) rfl).setBox (yy o1 o2) (by decide) 0 u)
    have b4 : Hid (∀ (o1 o2 : Obj) u, Below z w (((w8.alloc o1).alloc o2).setCell ⟨z + 1 + 1 + 1, 0, none⟩ u)) := Lib.hid (fun o1 o2 u => (show Below z w _ from (by rw [← hz0]; exact Q8.out.trans ((bb o1 o2).mono Q8.out.size))).setCell (p := ⟨z + 1 + 1 + 1, 0, none⟩) (by simp; omega) u)
    clear bb yy
    go_wp2_with fail
    exact bodyPost_ret (v := .tuple #[.agg #[.pointer (pa m)], .int .i64 0]) (by simp [results, Tryz.results25, go_sem, c4]) rfl ⟨m, 0, rfl, at4.out _ _ _, b4.out _ _ _, rfl, asked, HO.out, HT.out⟩
theorem three_ts {ls la lo : List Ev} {s a o : Tr ByteArray} (w : World) (hs : Tag ls s) (ha : Tag la a) (ho : Tag lo o) (ats : AtS w s) (aa : AtS w a) (ao : AtS w o) (zs : ls.length ≤ 100000) (za : la.length ≤ 100000) (zo : lo.length ≤ 100000) :
 Calls Tryz.prog 25 #[.agg #[.pointer (pa s)], .agg #[.pointer (pa a)], .agg #[.pointer (pa o)]] w fun e w' => ∃ (m : Tr ByteArray) (lm : List Ev), e = .returned (.tuple #[.agg #[.pointer (pa m)], .int .i64 0]) ∧ AtS w' m ∧ Below w.heap.size w w' ∧ Tag lm m ∧ ∀ x, x ∈ lm ↔ (x ∈ la ∧ (x ∈ lo ∨ x ∉ ls)) ∨ (x ∈ lo ∧ x ∉ la ∧ x ∉ ls) := by
 refine (ts_Three s a o w (by rw [hs.len]; exact zs) (by rw [ha.len]; exact za) (by rw [ho.len]; exact zo) ⟨hs.srt, ha.srt, ho.srt, hs.bal, ha.bal, ho.bal, fun _ _ => rfl, fun _ _ => rfl, fun _ _ => rfl, fun _ _ => trivial, fun _ _ => trivial, fun _ _ => trivial⟩ ats aa ao hs.keysT ha.keysT ho.keysT).mono ?_
 rintro e w' ⟨m, c, rfl, hm, hb, ⟨_, _, _, rfl, asked, hO, _⟩ | ⟨h, _⟩⟩
 · obtain ⟨lm, hT, hmem⟩ := three_tag hs ha ho hO
   exact ⟨m, lm, rfl, hm, hb, hT, hmem⟩
 · rw [hs.good, ha.good, ho.good] at h
   cases h
end Go.Proofs.YtjlliohjeiclaaaGreatDoor
namespace Go.Proofs.YtjlliohjeiclaaaGreatDoor
open Go.RowKit St Pm
set_option maxRecDepth 100000 in
set_option maxHeartbeats 4000000 in
theorem law_TThree (l1 l2 l3 : List Ev) (a1 a2 a3 : Option Addr) (n1 n2 n3 c1 c2 c3 : Nat) (w : World) (h1 : CellsAt w a1 (elsV l1)) (h2 : CellsAt w a2 (elsV l2)) (h3 : CellsAt w a3 (elsV l3)) (hn1 : n1 = l1.length) (hn2 : n2 = l2.length) (hn3 : n3 = l3.length)
 (b1 : n1 ≤ 9223372036854775807) (b2 : n2 ≤ 9223372036854775807) (b3 : n3 ≤ 9223372036854775807) (z1 : ∀ e ∈ l1, e.1.l.size ≤ 9223372036854775807) (z2 : ∀ e ∈ l2, e.1.l.size ≤ 9223372036854775807) (z3 : ∀ e ∈ l3, e.1.l.size ≤ 9223372036854775807) (hG : Glob w) :
 Calls Tryz.prog 5 #[.slice a1 n1 c1, .slice a2 n2 c2, .slice a3 n3 c3] w fun e w' => e = .returned (.bool true) ∧ Below w.heap.size w w' := by
 have H1 := Lib.hid h1
 have H2 := Lib.hid h2
 have H3 := Lib.hid h3
 have N1 := Lib.hid hn1
 have N2 := Lib.hid hn2
 have N3 := Lib.hid hn3
 have B1 := Lib.hid b1
 have B2 := Lib.hid b2
 have B3 := Lib.hid b3
 have Z1 := Lib.hid z1
 have Z2 := Lib.hid z2
 have Z3 := Lib.hid z3
 have HG := Lib.hid hG
 clear h1 h2 h3 hn1 hn2 hn3 z1 z2 z3 hG
 have HC : Hid (Chain [w] w) := Lib.hid (Chain.one w)
 go_enter Tryz.func5, Tryz.ntmps5
 go_wp2_with fail
 refine (known_11 _ (HG.out.below (HC.out.to w (by simp)))).mono ?_
 rintro e w1 ⟨rfl, hb⟩
 replace HC := Lib.hid (HC.out.push hb)
 clear hb
 go_upto_region 3 with (fail)
 by_cases q1 : 60 < n1
 · have q1i : (60 : Int) < (n1 : Int) := by omega
   go_wp2_with fail
   go_ret
   exact ⟨rfl, (HC.out.to w (by simp))⟩
 have q1i : ¬ (60 : Int) < (n1 : Int) := by omega
 have q1d : decide ((60 : Int) < (n1 : Int)) = false := decide_eq_false q1i
 by_cases q2 : 60 < n2
 · have q2i : (60 : Int) < (n2 : Int) := by omega
   go_wp2_with fail
   go_ret
   exact ⟨rfl, (HC.out.to w (by simp))⟩
 have q2i : ¬ (60 : Int) < (n2 : Int) := by omega
 have q2d : decide ((60 : Int) < (n2 : Int)) = false := decide_eq_false q2i
 by_cases q3 : 60 < n3
 · have q3i : (60 : Int) < (n3 : Int) := by omega
   go_wp2_with fail
   go_ret
   exact ⟨rfl, (HC.out.to w (by simp))⟩
 have q3i : ¬ (60 : Int) < (n3 : Int) := by omega
 have q3d : decide ((60 : Int) < (n3 : Int)) = false := decide_eq_false q3i
 go_wp2_with fail
 refine (ref11_May l1 _ n1 c1 _ (H1.out.below (HC.out.to w (by simp)) rfl) N1.out B1.out Z1.out).mono ?_
 rintro e m1 ⟨rfl, hb⟩
 replace HC := Lib.hid (HC.out.push hb)
 clear hb
 cases hm1 : mayV l1
 case false =>
  go_wp2_with fail
  go_ret
  exact ⟨rfl, (HC.out.to w (by simp))⟩
 have HM1 := Lib.hid hm1
 clear hm1
 go_wp2_with fail
 refine (ref11_May l2 _ n2 c2 _ (H2.out.below (HC.out.to w (by simp)) rfl) N2.out B2.out Z2.out).mono ?_
 rintro e m2 ⟨rfl, hb⟩
 replace HC := Lib.hid (HC.out.push hb)
 clear hb
 cases hm2 : mayV l2
 case false =>
  go_wp2_with fail
  go_ret
  exact ⟨rfl, (HC.out.to w (by simp))⟩
 have HM2 := Lib.hid hm2
 clear hm2
 go_wp2_with fail
 refine (ref11_May l3 _ n3 c3 _ (H3.out.below (HC.out.to w (by simp)) rfl) N3.out B3.out Z3.out).mono ?_
 rintro e m3 ⟨rfl, hb⟩
 replace HC := Lib.hid (HC.out.push hb)
 clear hb
 cases hm3 : mayV l3
 case false =>
  go_wp2_with fail
  go_ret
  exact ⟨rfl, (HC.out.to w (by simp))⟩
 have HM3 := Lib.hid hm3
 clear hm3
 go_wp2_with fail
 refine (of_tag l1 _ n1 c1 _ (H1.out.below (HC.out.to w (by simp)) rfl) N1.out (by omega) Z1.out (HG.out.below (HC.out.to w (by simp)))).mono ?_
 rintro e o1 ⟨t1, ce, rfl, ht, hb, hP⟩
 replace HC := Lib.hid (HC.out.push hb)
 clear hb
 obtain ⟨rfl, hr⟩ : ce = 0 ∧ Tag (setT l1) t1 := by
  rcases hP with ⟨_, h1, h2⟩ | ⟨h, _⟩
  · exact ⟨h1, h2⟩
  · rw [HM1.out] at h; cases h
 have R1 := Lib.hid hr
 have T1 := Lib.hid ht
 clear hP hr ht
 go_upto_region 6 with (fail)
 obtain ⟨d1, hd1⟩ : ∃ c, o1.heap.size = c := ⟨_, rfl⟩
 try rw [hd1]
 obtain ⟨x1, hx1⟩ : ∃ X, allocs o1 [.cells #[.pointer (pa t1)] 27] = X := ⟨_, rfl⟩
 rw [show o1.alloc (.cells #[.pointer (pa t1)] 27) = x1 from hx1]
 have hb : Below o1.heap.size o1 x1 := by rw [← hx1]; exact allocs_below _ _
 have HX : Hid (x1.heap[d1]? = some (.cells #[.pointer (pa t1)] 27 (0, 0))) := Lib.hid (by have := allocs_get [.cells #[.pointer (pa t1)] 27] o1 0 _ rfl; rw [hx1, hd1] at this; exact this)
 have Sd1 : Hid (o1.heap.size = d1) := Lib.hid hd1
 replace HC := Lib.hid (HC.out.push hb)
 clear hb hx1 hd1
 go_wp2_with fail
 refine (of_tag l2 _ n2 c2 _ (H2.out.below (HC.out.to w (by simp)) rfl) N2.out (by omega) Z2.out (HG.out.below (HC.out.to w (by simp)))).mono ?_
 rintro e o2 ⟨t2, ce, rfl, ht, hb, hP⟩
 replace HC := Lib.hid (HC.out.push hb)
 clear hb
 obtain ⟨rfl, hr⟩ : ce = 0 ∧ Tag (setT l2) t2 := by
  rcases hP with ⟨_, h1, h2⟩ | ⟨h, _⟩
  · exact ⟨h1, h2⟩
  · rw [HM2.out] at h; cases h
 have R2 := Lib.hid hr
 have T2 := Lib.hid ht
 clear hP hr ht
 go_upto_region 7 with (fail)
 obtain ⟨d2, hd2⟩ : ∃ c, o2.heap.size = c := ⟨_, rfl⟩
 try rw [hd2]
 obtain ⟨x2, hx2⟩ : ∃ X, allocs o2 [.cells #[.pointer (pa t2)] 27] = X := ⟨_, rfl⟩
 rw [show o2.alloc (.cells #[.pointer (pa t2)] 27) = x2 from hx2]
 have hb : Below o2.heap.size o2 x2 := by rw [← hx2]; exact allocs_below _ _
 have HY : Hid (x2.heap[d2]? = some (.cells #[.pointer (pa t2)] 27 (0, 0))) := Lib.hid (by have := allocs_get [.cells #[.pointer (pa t2)] 27] o2 0 _ rfl; rw [hx2, hd2] at this; exact this)
 have Sd2 : Hid (o2.heap.size = d2) := Lib.hid hd2
 replace HC := Lib.hid (HC.out.push hb)
 clear hb hx2 hd2
 go_wp2_with fail
 refine (of_tag l3 _ n3 c3 _ (H3.out.below (HC.out.to w (by simp)) rfl) N3.out (by omega) Z3.out (HG.out.below (HC.out.to w (by simp)))).mono ?_
 rintro e o3 ⟨t3, ce, rfl, ht, hb, hP⟩
 replace HC := Lib.hid (HC.out.push hb)
 clear hb
 obtain ⟨rfl, hr⟩ : ce = 0 ∧ Tag (setT l3) t3 := by
  rcases hP with ⟨_, h1, h2⟩ | ⟨h, _⟩
  · exact ⟨h1, h2⟩
  · rw [HM3.out] at h; cases h
 have R3 := Lib.hid hr
 have T3 := Lib.hid ht
 clear hP hr ht
 go_upto_region 8 with (fail)
 obtain ⟨d3, hd3⟩ : ∃ c, o3.heap.size = c := ⟨_, rfl⟩
 try rw [hd3]
 obtain ⟨x3, hx3⟩ : ∃ X, allocs o3 [.cells #[.pointer (pa t3)] 27] = X := ⟨_, rfl⟩
 rw [show o3.alloc (.cells #[.pointer (pa t3)] 27) = x3 from hx3]
 have hb : Below o3.heap.size o3 x3 := by rw [← hx3]; exact allocs_below _ _
 have HZ : Hid (x3.heap[d3]? = some (.cells #[.pointer (pa t3)] 27 (0, 0))) := Lib.hid (by have := allocs_get [.cells #[.pointer (pa t3)] 27] o3 0 _ rfl; rw [hx3, hd3] at this; exact this)
 have Sd3 : Hid (o3.heap.size = d3) := Lib.hid hd3
 replace HC := Lib.hid (HC.out.push hb)
 clear hb hx3 hd3
 have K1 : Hid ((setT l1).length ≤ 100000) := Lib.hid (by rw [← sortV_length, tag_setT HM1.out R1.out, sortV_length, ← N1.out]; omega)
 have K2 : Hid ((setT l2).length ≤ 100000) := Lib.hid (by rw [← sortV_length, tag_setT HM2.out R2.out, sortV_length, ← N2.out]; omega)
 have K3 : Hid ((setT l3).length ≤ 100000) := Lib.hid (by rw [← sortV_length, tag_setT HM3.out R3.out, sortV_length, ← N3.out]; omega)
 obtain ⟨p, hp⟩ : ∃ p, sortV (thrB l1 l2 l3) = p := ⟨_, rfl⟩
 have KP : Hid (p.length ≤ 100000 ∧ (thrB l1 l2 l3).length = p.length) := Lib.hid (by rw [← hp, sortV_length]; have := thrB_len l1 l2 l3; have := N2.out; have := N3.out; omega)
 obtain ⟨u, hu⟩ : ∃ u, sortV l2 = u := ⟨_, rfl⟩
 have KU : Hid (n2 = u.length) := Lib.hid (by rw [← hu, sortV_length]; exact N2.out)
 have S12 : Hid (∀ (lm : List Ev) (m : Tr ByteArray), Tag lm m → (∀ x, x ∈ lm ↔ (x ∈ setT l2 ∧ (x ∈ setT l3 ∨ x ∉ setT l1)) ∨ (x ∈ setT l3 ∧ x ∉ setT l2 ∧ x ∉ setT l1)) → sortV lm = p ∧ lm.length = p.length) := Lib.hid (fun lm m h1 h2 => by
  have h := (tag_thrB HM1.out HM2.out HM3.out h1 h2).trans hp
  exact ⟨h, by rw [← h, sortV_length]⟩)
 have S13 : Hid (∀ (lm : List Ev) (m : Tr ByteArray), Tag lm m → (∀ x, x ∈ lm ↔ (x ∈ setT l3 ∧ (x ∈ setT l2 ∨ x ∉ setT l1)) ∨ (x ∈ setT l2 ∧ x ∉ setT l3 ∧ x ∉ setT l1)) → sortV lm = p ∧ lm.length = p.length) := Lib.hid (fun lm m h1 h2 => by
  have h := ((tag_thrB HM1.out HM3.out HM2.out h1 h2).trans (thrB_swap HM2.out HM3.out)).trans hp
  exact ⟨h, by rw [← h, sortV_length]⟩)
 have S11 : Hid (∀ (lm : List Ev) (m : Tr ByteArray), Tag lm m → (∀ x, x ∈ lm ↔ (x ∈ setT l2 ∧ (x ∈ setT l1 ∨ x ∉ setT l1)) ∨ (x ∈ setT l1 ∧ x ∉ setT l2 ∧ x ∉ setT l1)) → sortV lm = u ∧ lm.length = u.length) := Lib.hid (fun lm m h1 h2 => by
  have h := ((tag_thrB HM1.out HM2.out HM1.out h1 h2).trans (thrB_self HM1.out HM2.out)).trans hu
  exact ⟨h, by rw [← h, sortV_length]⟩)
 have WP : Hid (sortV (thrB l1 l2 l3) = p) := Lib.hid hp
 have WU : Hid (sortV l2 = u) := Lib.hid hu
 clear hp hu
 generalize setT l1 = p1 at *
 generalize setT l2 = p2 at *
 generalize setT l3 = p3 at *
 have kX0 := cell_of_one (boxStays HX.out (HC.out.to x1 (by simp)))
 have kY0 := cell_of_one (boxStays HY.out (HC.out.to x2 (by simp)))
 have kZ0 := cell_of_one HZ.out
 go_wp2_with fail
 refine (three_ts _ R1.out R2.out R3.out (T1.out.below (HC.out.to o1 (by simp)) rfl) (T2.out.below (HC.out.to o2 (by simp)) rfl) (T3.out.below (HC.out.to o3 (by simp)) rfl) K1.out K2.out K3.out).mono ?_
 rintro e u1 ⟨m, lm, rfl, hm, hb, hT, hmem⟩
 clear kX0 kY0 kZ0
 replace HC := Lib.hid (HC.out.push hb)
 clear hb
 have RM := Lib.hid hT
 have TM := Lib.hid hm
 have EM := Lib.hid (S12.out lm m hT hmem)
 clear hT hm hmem
 go_upto_region 9 with (fail)
 obtain ⟨g1, hg1⟩ : ∃ c, u1.heap.size = c := ⟨_, rfl⟩
 try rw [hg1]
 obtain ⟨y1, hy1⟩ : ∃ X, allocs u1 [.cells #[.pointer (pa m)] 27] = X := ⟨_, rfl⟩
 rw [show u1.alloc (.cells #[.pointer (pa m)] 27) = y1 from hy1]
 have hb : Below u1.heap.size u1 y1 := by rw [← hy1]; exact allocs_below _ _
 have HM : Hid (y1.heap[g1]? = some (.cells #[.pointer (pa m)] 27 (0, 0))) := Lib.hid (by have := allocs_get [.cells #[.pointer (pa m)] 27] u1 0 _ rfl; rw [hy1, hg1] at this; exact this)
 have Sg1 : Hid (u1.heap.size = g1) := Lib.hid hg1
 replace HC := Lib.hid (HC.out.push hb)
 clear hb hy1 hg1
 have kX0 := cell_of_one (boxStays HX.out (HC.out.to x1 (by simp)))
 have kY0 := cell_of_one (boxStays HY.out (HC.out.to x2 (by simp)))
 have kZ0 := cell_of_one (boxStays HZ.out (HC.out.to x3 (by simp)))
 go_wp2_with fail
 refine (three_ts _ R1.out R3.out R2.out (T1.out.below (HC.out.to o1 (by simp)) rfl) (T3.out.below (HC.out.to o3 (by simp)) rfl) (T2.out.below (HC.out.to o2 (by simp)) rfl) K1.out K3.out K2.out).mono ?_
 rintro e u2 ⟨n, ln, rfl, hm, hb, hT, hmem⟩
 clear kX0 kY0 kZ0
 replace HC := Lib.hid (HC.out.push hb)
 clear hb
 have RN := Lib.hid hT
 have TN := Lib.hid hm
 have EN := Lib.hid (S13.out ln n hT hmem)
 clear hT hm hmem
 go_upto_region 10 with (fail)
 obtain ⟨g2, hg2⟩ : ∃ c, u2.heap.size = c := ⟨_, rfl⟩
 try rw [hg2]
 obtain ⟨y2, hy2⟩ : ∃ X, allocs u2 [.cells #[.pointer (pa n)] 27] = X := ⟨_, rfl⟩
 rw [show u2.alloc (.cells #[.pointer (pa n)] 27) = y2 from hy2]
 have hb : Below u2.heap.size u2 y2 := by rw [← hy2]; exact allocs_below _ _
 have HNN : Hid (y2.heap[g2]? = some (.cells #[.pointer (pa n)] 27 (0, 0))) := Lib.hid (by have := allocs_get [.cells #[.pointer (pa n)] 27] u2 0 _ rfl; rw [hy2, hg2] at this; exact this)
 have Sg2 : Hid (u2.heap.size = g2) := Lib.hid hg2
 replace HC := Lib.hid (HC.out.push hb)
 clear hb hy2 hg2
 go_wp2_with fail
 refine (num_11 0 _).mono ?_
 rintro e _ ⟨rfl, rfl⟩
 go_wp2_with fail
 refine (num_11 0 _).mono ?_
 rintro e _ ⟨rfl, rfl⟩
 go_wp2_with fail
 refine (num_11 0 _).mono ?_
 rintro e _ ⟨rfl, rfl⟩
 go_wp2_with fail
 refine (num_11 0 _).mono ?_
 rintro e _ ⟨rfl, rfl⟩
 go_wp2_with fail
 refine (num_11 0 _).mono ?_
 rintro e _ ⟨rfl, rfl⟩
 go_wp2_with fail
 refine (ref11_Three l1 l2 l3 _ _ _ n1 n2 n3 c1 c2 c3 _ (H1.out.below (HC.out.to w (by simp)) rfl) (H2.out.below (HC.out.to w (by simp)) rfl) (H3.out.below (HC.out.to w (by simp)) rfl) N1.out N2.out N3.out (by omega) (by omega) (by omega) Z2.out Z3.out).mono ?_
 rintro e f1 ⟨v, rfl, hown, hb⟩
 replace HC := Lib.hid (HC.out.push hb)
 clear hb
 rw [WP.out, KP.out.2] at hown
 obtain ⟨af1, cf1, rfl, _⟩ := own_slice hown
 have F1 : Hid (CellsAt f1 af1 (elsV p)) := Lib.hid (CellsAt.ownN hown)
 clear hown
 have kM0 := cell_of_one (boxStays HM.out (HC.out.to y1 (by simp)))
 go_wp2_with fail
 refine (el_tag m _ (TM.out.below (HC.out.to u1 (by simp)) rfl) RM.out (by rw [EM.out.2]; exact KP.out.1)).mono ?_
 rintro e e1 ⟨ae1, ce1, rfl, hb, hc⟩
 clear kM0
 replace HC := Lib.hid (HC.out.push hb)
 clear hb
 rw [EM.out.1] at hc
 have E1 := Lib.hid hc
 clear hc
 rw [EM.out.2]
 have kNN0 := cell_of_one (boxStays HNN.out (HC.out.to y2 (by simp)))
 go_wp2_with fail
 refine (el_tag n _ (TN.out.below (HC.out.to u2 (by simp)) rfl) RN.out (by rw [EN.out.2]; exact KP.out.1)).mono ?_
 rintro e e2 ⟨ae2, ce2, rfl, hb, hc⟩
 clear kNN0
 replace HC := Lib.hid (HC.out.push hb)
 clear hb
 rw [EN.out.1] at hc
 have E2 := Lib.hid hc
 clear hc
 rw [EN.out.2]
 go_wp2_with fail
 refine (ref9_SameElements p p _ _ _ _ _ _ _ (E1.out.below (HC.out.to e1 (by simp)) rfl) (F1.out.below (HC.out.to f1 (by simp)) rfl) rfl rfl (by have := KP.out.1; omega)).mono ?_
 rintro e f2 ⟨rfl, hb⟩
 replace HC := Lib.hid (HC.out.push hb)
 clear hb
 rw [decide_eq_true rfl]
 go_wp2_with fail
 refine (ref9_SameElements p p _ _ _ _ _ _ _ (E2.out.below (HC.out.to e2 (by simp)) rfl) (F1.out.below (HC.out.to f1 (by simp)) rfl) rfl rfl (by have := KP.out.1; omega)).mono ?_
 rintro e f4 ⟨rfl, hb⟩
 replace HC := Lib.hid (HC.out.push hb)
 clear hb
 rw [decide_eq_true rfl]
 go_wp2_with fail
 refine (num_11 0 _).mono ?_
 rintro e _ ⟨rfl, rfl⟩
 go_wp2_with fail
 refine (num_11 0 _).mono ?_
 rintro e _ ⟨rfl, rfl⟩
 have kX0 := cell_of_one (boxStays HX.out (HC.out.to x1 (by simp)))
 have kY0 := cell_of_one (boxStays HY.out (HC.out.to x2 (by simp)))
 go_upto_region 17 with (fail)
 go_wp2_with fail
 refine (three_ts _ R1.out R2.out R1.out (T1.out.below (HC.out.to o1 (by simp)) rfl) (T2.out.below (HC.out.to o2 (by simp)) rfl) (T1.out.below (HC.out.to o1 (by simp)) rfl) K1.out K2.out K1.out).mono ?_
 rintro e u3 ⟨q, lq, rfl, hm, hb, hT, hmem⟩
 clear kX0 kY0
 replace HC := Lib.hid (HC.out.push hb)
 clear hb
 have RU := Lib.hid hT
 have TU := Lib.hid hm
 have EU := Lib.hid (S11.out lq q hT hmem)
 clear hT hm hmem
 go_upto_region 18 with (fail)
 obtain ⟨g3, hg3⟩ : ∃ c, u3.heap.size = c := ⟨_, rfl⟩
 try rw [hg3]
 obtain ⟨y3, hy3⟩ : ∃ X, allocs u3 [.cells #[.pointer (pa q)] 27] = X := ⟨_, rfl⟩
 rw [show u3.alloc (.cells #[.pointer (pa q)] 27) = y3 from hy3]
 have hb : Below u3.heap.size u3 y3 := by rw [← hy3]; exact allocs_below _ _
 have HU : Hid (y3.heap[g3]? = some (.cells #[.pointer (pa q)] 27 (0, 0))) := Lib.hid (by have := allocs_get [.cells #[.pointer (pa q)] 27] u3 0 _ rfl; rw [hy3, hg3] at this; exact this)
 have Sg3 : Hid (u3.heap.size = g3) := Lib.hid hg3
 replace HC := Lib.hid (HC.out.push hb)
 clear hb hy3 hg3
 have kU0 := cell_of_one HU.out
 go_wp2_with fail
 refine (el_tag q _ (TU.out.below (HC.out.to u3 (by simp)) rfl) RU.out (by rw [EU.out.2, ← KU.out]; omega)).mono ?_
 rintro e e3 ⟨ae3, ce3, rfl, hb, hc⟩
 clear kU0
 replace HC := Lib.hid (HC.out.push hb)
 clear hb
 rw [EU.out.1] at hc
 have E3 := Lib.hid hc
 clear hc
 rw [EU.out.2, ← KU.out]
 go_wp2_with fail
 refine (num_11 0 _).mono ?_
 rintro e _ ⟨rfl, rfl⟩
 go_wp2_with fail
 refine (num_11 0 _).mono ?_
 rintro e _ ⟨rfl, rfl⟩
 go_wp2_with fail
 refine (ref11_Sorted l2 _ n2 c2 _ (H2.out.below (HC.out.to w (by simp)) rfl) N2.out (by omega) Z2.out).mono ?_
 rintro e s2 ⟨v, rfl, hown, hb⟩
 replace HC := Lib.hid (HC.out.push hb)
 clear hb
 rw [WU.out] at hown
 obtain ⟨ap2, cp2, rfl, _⟩ := own_slice hown
 have P2 : Hid (CellsAt s2 ap2 (elsV u)) := Lib.hid (CellsAt.ownN hown)
 clear hown
 go_wp2_with fail
 refine (ref9_SameElements u u _ _ n2 n2 _ _ _ (E3.out.below (HC.out.to e3 (by simp)) rfl) (P2.out.below (HC.out.to s2 (by simp)) rfl) KU.out KU.out (by omega)).mono ?_
 rintro e f5 ⟨rfl, hb⟩
 replace HC := Lib.hid (HC.out.push hb)
 clear hb
 rw [decide_eq_true rfl]
 go_wp2_with fail
 go_ret
 exact ⟨rfl, (HC.out.to w (by simp))⟩
end Go.Proofs.YtjlliohjeiclaaaGreatDoor
namespace Go.Proofs.YtjlliohjeiclaaaGreatDoor
open Go.ChangeShapes Go.WideShapes Go.ChangeAt Go.RowKit Go.Deep
section
variable {H : Type} {enc : TypeId × Value → H} {P : Program} {w : World} {base : Nat} {held : Bool}
theorem spot_none {a : Addr} {v : Value} (h : w.cell? (a.add 0) = some v) : ∃ b off, a = ⟨b, off, none⟩ := by
 obtain ⟨b, off, spot⟩ := a
 have hs : spot = none := by simpa [Addr.add] using World.cell?_spot h
 subst hs
 exact ⟨b, off, rfl⟩
end
end Go.Proofs.YtjlliohjeiclaaaGreatDoor
namespace Go.Proofs.YtjlliohjeiclaaaGreatDoor
open Go.ChangeShapes Go.WideShapes Go.ChangeAt Go.RowKit Go.Deep St
section
variable {H : Type} {enc : TypeId × Value → H} {w : World} {base : Nat} {held : Bool}
theorem maxLen_small {n : Nat} (h : n ≤ maxLen) : n ≤ 9223372036854775807 := by unfold maxLen at h; omega
set_option maxRecDepth 100000 in
theorem open_br {fuel : Nat} {cs : List Value} {x : DataW H × List MemPlace} (h : DataW.trod enc Tryz.prog w base (fun _ => true) held fuel 39 cs = some x) :
 ∃ (r : Int) (l : ByteArray), cs = [.int .i64 r, .string l] ∧ l.size ≤ maxLen := by
 obtain ⟨xs, n, _, _, hlen, hz, hff⟩ := DataW.trod_struct Tryz.underlying39 h
 rw [show Tryz.prog.cellsOf 39 = 2 by kernel_rfl] at hlen
 match cs, hlen with
 | [v0, v1], _ =>
  have q0 := hff 0 _ rfl
  have q1 := hff 1 _ rfl
  rw [List.getElem?_eq_getElem (by rw [hz]; decide)] at q0 q1
  change DataW.trod enc _ w base _ held n 3 (List.take (Tryz.prog.cellsOf 3) [v0, v1]) = _ at q0
  change DataW.trod enc _ w base _ held n 9 (List.take (Tryz.prog.cellsOf 9) [v1]) = _ at q1
  rw [show Tryz.prog.cellsOf 3 = 1 by kernel_rfl] at q0
  rw [show Tryz.prog.cellsOf 9 = 1 by kernel_rfl] at q1
  obtain ⟨r, k0, _⟩ := DataW.trod_int Tryz.underlying3 q0
  obtain ⟨l, k1, _, k2⟩ := DataW.trod_string Tryz.underlying9 q1
  simp only [List.take, List.cons.injEq, and_true] at k0 k1
  subst k0 k1
  exact ⟨r, l, rfl, k2⟩
set_option maxRecDepth 100000 in
theorem open_nm {fuel : Nat} {cs : List Value} {x : DataW H × List MemPlace} (h : DataW.trod enc Tryz.prog w base (fun _ => true) held fuel 41 cs = some x) :
 ∃ (r : Int) (l : ByteArray) (k : Int), cs = [.int .i64 r, .string l, .int .i64 k] ∧ l.size ≤ maxLen := by
 obtain ⟨xs, n, _, _, hlen, hz, hff⟩ := DataW.trod_struct Tryz.underlying41 h
 rw [show Tryz.prog.cellsOf 41 = 3 by kernel_rfl] at hlen
 match cs, hlen with
 | [v0, v1, v2], _ =>
  have q0 := hff 0 _ rfl
  have q1 := hff 1 _ rfl
  rw [List.getElem?_eq_getElem (by rw [hz]; decide)] at q0 q1
  change DataW.trod enc _ w base _ held n 39 (List.take (Tryz.prog.cellsOf 39) [v0, v1, v2]) = _ at q0
  change DataW.trod enc _ w base _ held n 2 (List.take (Tryz.prog.cellsOf 2) [v2]) = _ at q1
  rw [show Tryz.prog.cellsOf 39 = 2 by kernel_rfl] at q0
  rw [show Tryz.prog.cellsOf 2 = 1 by kernel_rfl] at q1
  obtain ⟨r, l, k0, kl⟩ := open_br q0
  obtain ⟨k, k1, _⟩ := DataW.trod_int Tryz.underlying2 q1
  simp only [List.take, List.cons.injEq, and_true] at k0 k1
  obtain ⟨k0, k0'⟩ := k0
  subst k0 k0' k1
  exact ⟨r, l, k, rfl, kl⟩
set_option maxRecDepth 100000 in
theorem open_sv {fuel : Nat} {cs : List Value} {x : DataW H × List MemPlace} (h : DataW.trod enc Tryz.prog w base (fun _ => true) held fuel 43 cs = some x) :
 ∃ s : Sv, cs = [.int .i64 s.g, .int .i64 s.r, .string s.l, .int .i64 s.n, .int .i64 s.i] ∧ s.l.size ≤ maxLen := by
 obtain ⟨xs, n, _, _, hlen, hz, hff⟩ := DataW.trod_struct Tryz.underlying43 h
 rw [show Tryz.prog.cellsOf 43 = 5 by kernel_rfl] at hlen
 match cs, hlen with
 | [v0, v1, v2, v3, v4], _ =>
  have q0 := hff 0 _ rfl
  have q1 := hff 1 _ rfl
  have q2 := hff 2 _ rfl
  rw [List.getElem?_eq_getElem (by rw [hz]; decide)] at q0 q1 q2
  change DataW.trod enc _ w base _ held n 2 (List.take (Tryz.prog.cellsOf 2) [v0, v1, v2, v3, v4]) = _ at q0
  change DataW.trod enc _ w base _ held n 41 (List.take (Tryz.prog.cellsOf 41) [v1, v2, v3, v4]) = _ at q1
  change DataW.trod enc _ w base _ held n 3 (List.take (Tryz.prog.cellsOf 3) [v4]) = _ at q2
  rw [show Tryz.prog.cellsOf 2 = 1 by kernel_rfl] at q0
  rw [show Tryz.prog.cellsOf 41 = 3 by kernel_rfl] at q1
  rw [show Tryz.prog.cellsOf 3 = 1 by kernel_rfl] at q2
  obtain ⟨g, k0, _⟩ := DataW.trod_int Tryz.underlying2 q0
  obtain ⟨r, l, k, k1, kl⟩ := open_nm q1
  obtain ⟨i, k2, _⟩ := DataW.trod_int Tryz.underlying3 q2
  simp only [List.take, List.cons.injEq, and_true] at k0 k1 k2
  obtain ⟨e1, e2, e3⟩ := k1
  subst k0 e1 e2 e3 k2
  exact ⟨⟨g, r, l, k, i⟩, rfl, kl⟩
set_option maxRecDepth 100000 in
set_option maxRecDepth 100000 in
end
theorem laid_eq1 : (Rows.laid_unicode_utf8_acceptRanges : DataW Unit) = Lib.acceptData := by kernel_rfl
theorem laid_eq2 : Rows.laid_unicode_utf8_first = Lib.firstData := by kernel_rfl
theorem glob_of {W : World} (hL : laidMetH Tryz.prog [("unicode/utf8.acceptRanges", Rows.laid_unicode_utf8_acceptRanges), ("unicode/utf8.first", Rows.laid_unicode_utf8_first)] W) (hS : W.ShapedOpen Tryz.prog) : Glob W := by
 refine ⟨utf8Tabs_of_readsT (U8Types.of196 lay196) ⟨by kernel_rfl, by kernel_rfl, by kernel_rfl, by kernel_rfl, by kernel_rfl, by kernel_rfl, by kernel_rfl⟩ ?_ ?_, ?_⟩
 · rw [← laid_eq2]; exact Lib.laidMet.reads hL (.tail _ (.head _))
 · rw [← laid_eq1]; exact Lib.laidMet.reads hL (.head _)
 · exact cell_of_shapedOpen_int (P := Tryz.prog) (g := 2) (t := 3) (zero := #[.int .i64 0]) hS (of_decide_eq_true (by kernel_rfl)) (by kernel_rfl) rfl (by kernel_rfl) (by kernel_rfl) Tryz.underlying3
noncomputable def laidWorld (os : Os) : World :=
 let w0 := World.holding Tryz.prog os ⟨#[], #[], []⟩
 let put (h : Array Obj) (g : Nat) (cs : Array Value) : Array Obj := h.modify g fun
  | .cells _ t frozen => .cells cs t frozen
  | o => o
 let h1 := put w0.heap 0 (Lib.firstTab.map fun z => Value.int .u8 z).toArray
 let h2 := put h1 1 ((List.range 16).flatMap fun i => [Value.int .u8 (Lib.accLo i), Value.int .u8 (Lib.accHi i)]).toArray
 { w0 with heap := h2 }
theorem laid_met (os : Os) (args : Array Value) : laidMet Tryz.prog [("unicode/utf8.acceptRanges", Rows.laid_unicode_utf8_acceptRanges), ("unicode/utf8.first", Rows.laid_unicode_utf8_first)] ((laidWorld os).forCall (fun _ _ => 0) ⟨#[], args, []⟩).memory :=
 (LaidIn.of_run (l := [("unicode/utf8.acceptRanges", Rows.laid_unicode_utf8_acceptRanges), ("unicode/utf8.first", Rows.laid_unicode_utf8_first)]) [1, 0] 8 (by kernel_rfl) (by kernel_rfl) (by kernel_rfl) (by kernel_rfl)).met
end Go.Proofs.YtjlliohjeiclaaaGreatDoor
namespace Go.Proofs.YtjlliohjeiclaaaGreatDoor
open Go.ChangeShapes Go.WideShapes Go.ChangeAt Go.RowKit Go.Deep St
section
variable {H : Type} {enc : TypeId × Value → H} {w : World} {base : Nat} {held : Bool}
theorem flat_getU {α : Type} (f : α → List Value) (m : Nat) (hf : ∀ x, (f x).length = m) (hm : 0 < m) : ∀ (l : List α) (i r : Nat) (hi : i < l.length), r < m → (l.flatMap f)[i * m + r]? = (f l[i])[r]?
 | [], i, r, hi, _ => by simp at hi
 | x :: l, 0, r, _, hr => by
  rw [List.flatMap_cons, Nat.zero_mul, Nat.zero_add, List.getElem?_append_left (by rw [hf]; exact hr)]
  rfl
 | x :: l, i + 1, r, hi, hr => by
  rw [List.flatMap_cons, List.getElem?_append_right (by rw [hf, Nat.succ_mul]; omega), hf, Nat.succ_mul]
  rw [show i * m + m + r - m = i * m + r by omega, flat_getU f m hf hm l i r (by simpa using hi) hr]
  rfl
theorem flat_lenU {α : Type} (f : α → List Value) (m : Nat) (hf : ∀ x, (f x).length = m) : ∀ (l : List α), (l.flatMap f).length = l.length * m
 | [] => by simp
 | x :: l => by rw [List.flatMap_cons, List.length_append, hf, flat_lenU f m hf l, List.length_cons, Nat.succ_mul]; omega
theorem bulk_partU {d : DataW H} {l : List (DataW H)} (h : d ∈ l) : Rows.uptoBulk d ≤ Rows.uptoBulkAll l := by
 induction l with
 | nil => cases h
 | cons x r ih =>
  simp only [Rows.uptoBulkAll]
  cases List.mem_cons.1 h with
  | inl e => subst e; omega
  | inr e => have := ih e; omega
theorem open_structsU {α : Type} [Inhabited α] (f : α → List Value) (m : Nat) (hf : ∀ x, (f x).length = m) (hm : 0 < m) (G : α → Nat → Prop) (hG : ∀ {y a b}, G y a → a ≤ b → G y b) {t e : TypeId} {fuel : Nat} {a0 : Option Addr} {len cap : Nat} {x : DataW H × List MemPlace} (ht : Tryz.prog.underlying t = some (.slice e)) (ce : Tryz.prog.cellsOf e = m)
 (each : ∀ {fuel : Nat} {cs : List Value} {x : DataW H × List MemPlace}, DataW.trod enc Tryz.prog w base (fun _ => true) held fuel e cs = some x → ∃ y : α, cs = f y ∧ G y (Rows.uptoBulk x.1))
 (h : DataW.trod enc Tryz.prog w base (fun _ => true) held fuel t (Value.slice a0 len cap).cells.toList = some x) :
 ∃ l : List α, len = l.length ∧ CellsAt w a0 (l.flatMap f) ∧ l.length ≤ maxLen ∧ ∀ y ∈ l, G y (Rows.uptoBulk x.1) := by
 rcases open_slice ht h with ⟨hcs, _⟩ | ⟨a, l, c, k, n, D, Pl, hcs, _, hl, hmx, hmm, hx, hi⟩
 · simp [Value.cells] at hcs
   obtain ⟨rfl, rfl, rfl⟩ := hcs
   exact ⟨[], rfl, CellsAt.nil _ _, Nat.zero_le _, fun y hy => by cases hy⟩
 · simp [Value.cells] at hcs
   obtain ⟨rfl, rfl, rfl⟩ := hcs
   simp only [if_true] at hmm
   subst hmm
   have each2 : ∀ i, i < k → ∃ y : α, (∀ r, r < m → w.cell? ((a.add (i * m)).add r) = (f y)[r]?) ∧ G y (Rows.uptoBulk (D i)) := by
    intro i hik
    obtain ⟨cs', hc, htr⟩ := hi i hik
    rw [ce] at hc
    obtain ⟨y, rfl, hg⟩ := each htr
    obtain ⟨_, hcl, hat⟩ := World.cells?_some hc
    refine ⟨y, fun r hr => ?_, hg⟩
    have := hat r hr
    rw [this]
    try rw [List.getElem?_eq_getElem]
    done
   obtain ⟨F, hF⟩ := choose_lt (α := α) (n := k) (p := fun i y => (∀ r, r < m → w.cell? ((a.add (i * m)).add r) = (f y)[r]?) ∧ G y (Rows.uptoBulk (D i))) each2
   refine ⟨(List.range len).map F, by simp, fun q hq => ?_, by simp; omega, fun y hy => ?_⟩
   · have hlenF : (((List.range len).map F).flatMap f).length = len * m := by rw [flat_lenU f m hf]; simp
     have hq2 : q < len * m := by rw [← hlenF]; exact hq
     have hqm : q / m < len := Nat.div_lt_of_lt_mul (by rw [Nat.mul_comm]; exact hq2)
     have hp : 0 < k := Nat.lt_of_le_of_lt (Nat.zero_le _) (Nat.lt_of_lt_of_le hqm hl)
     have z0 := (hF 0 hp).1 0 hm
     rw [List.getElem?_eq_getElem (by rw [hf]; exact hm), Nat.zero_mul] at z0
     obtain ⟨b, off, rfl⟩ := spot_none (a := a) z0
     refine ⟨b, off, rfl, ?_⟩
     have hr : q % m < m := Nat.mod_lt _ hm
     have hk := (hF (q / m) (Nat.lt_of_lt_of_le hqm hl)).1 (q % m) hr
     have hg := flat_getU f m hf hm ((List.range len).map F) (q / m) (q % m) (by simpa using hqm) hr
     simp only [List.getElem_map, List.getElem_range] at hg
     have hqe : q / m * m + q % m = q := by rw [Nat.mul_comm]; exact Nat.div_add_mod q m
     rw [hqe] at hg
     rw [Addr_add, Addr_add, Nat.add_assoc, hqe] at hk
     rw [hk, ← hg, List.getElem?_eq_getElem hq]
   · obtain ⟨i, hi', rfl⟩ := List.mem_map.1 hy
     have hlt := List.mem_range.1 hi'
     refine hG (hF i (by omega)).2 ?_
     have h1 : D i ∈ (List.range len).map D := List.mem_map.2 ⟨i, hi', rfl⟩
     have h2 := bulk_partU h1
     rw [hx]
     simp only [Rows.uptoBulk]
     omega
set_option maxRecDepth 100000 in
end
end Go.Proofs.YtjlliohjeiclaaaGreatDoor
namespace Go.Proofs.YtjlliohjeiclaaaGreatDoor
open Go.ChangeShapes Go.WideShapes Go.ChangeAt Go.RowKit Go.Deep St
section
variable {H : Type} {enc : TypeId × Value → H} {w : World} {base : Nat} {held : Bool}
set_option maxRecDepth 100000 in
theorem open_evU {fuel : Nat} {cs : List Value} {x : DataW H × List MemPlace} (h : DataW.trod enc Tryz.prog w base (fun _ => true) held fuel 53 cs = some x) :
 ∃ e : Ev, cs = elV e ∧ e.1.l.size ≤ 9223372036854775807 := by
 obtain ⟨xs, n, _, _, hlen, hz, hff⟩ := DataW.trod_struct Tryz.underlying53 h
 rw [show Tryz.prog.cellsOf 53 = 6 by kernel_rfl] at hlen
 match cs, hlen with
 | [v0, v1, v2, v3, v4, v5], _ =>
  have q0 := hff 0 _ rfl
  have q1 := hff 1 _ rfl
  rw [List.getElem?_eq_getElem (by rw [hz]; decide)] at q0 q1
  change DataW.trod enc _ w base _ held n 43 (List.take (Tryz.prog.cellsOf 43) [v0, v1, v2, v3, v4, v5]) = _ at q0
  change DataW.trod enc _ w base _ held n 9 (List.take (Tryz.prog.cellsOf 9) [v5]) = _ at q1
  rw [show Tryz.prog.cellsOf 43 = 5 by kernel_rfl] at q0
  rw [show Tryz.prog.cellsOf 9 = 1 by kernel_rfl] at q1
  obtain ⟨s, k0, kl⟩ := open_sv q0
  obtain ⟨t, k1, _, kt⟩ := DataW.trod_string Tryz.underlying9 q1
  simp only [List.take, List.cons.injEq, and_true] at k0 k1
  obtain ⟨e1, e2, e3, e4, e5⟩ := k0
  subst e1 e2 e3 e4 e5 k1
  exact ⟨(s, t), rfl, maxLen_small kl⟩
theorem open_elsU {fuel : Nat} {a0 : Option Addr} {len cap : Nat} {x : DataW H × List MemPlace} (h : DataW.trod enc Tryz.prog w base (fun _ => true) held fuel 22 (Value.slice a0 len cap).cells.toList = some x) :
 ∃ l : List Ev, len = l.length ∧ CellsAt w a0 (elsV l) ∧ l.length ≤ maxLen ∧ ∀ e ∈ l, e.1.l.size ≤ 9223372036854775807 :=
 open_structsU (α := Ev) elV 6 (fun _ => rfl) (by omega) (fun e _ => e.1.l.size ≤ 9223372036854775807) (fun h _ => h) Tryz.underlying22 (by kernel_rfl) open_evU h
end
end Go.Proofs.YtjlliohjeiclaaaGreatDoor
