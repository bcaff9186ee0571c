
/- Walks of law 08: WalkElements. -/
import Derived.Test.YtdodkhhlbjamhaaWlGp
import Derived.Test.YtdodkhhlbjamhaaInv
import Derived.Deep.DeepCutAuto
import Derived.Deep.CutBlock
namespace Go.Proofs.Ytdodkhhlbjamhaa
open Go.RowKit Pm
/-- What stays meanwhile. -/
structure ElE (H : List (Nat × Obj)) (ts : List (Tr Int)) (ka : Option Addr) (L : List ByteArray) (w W : World) : Prop where
  f : Facts H W
  t : ∀ t ∈ ts, AtI W t
  k : CellsAt W ka (strV L)
  b : Below w.heap.size w W
theorem ElE.below {H : List (Nat × Obj)} {ts : List (Tr Int)} {ka : Option Addr} {L : List ByteArray} {w W W' : World} (h : ElE H ts ka L w W) (hb : Below W.heap.size W W') : ElE H ts ka L w W' :=
  ⟨h.f.below hb, fun t ht => (h.t t ht).below hb rfl, h.k.below hb rfl, h.b.trans (hb.mono h.b.size)⟩
theorem getI {t : Tr Int} {q : ByteArray} {W : World} {v : Int} {b : Bool} (h : AtI W t) (hp : prtTI t q = (v, b)) : Calls Try.prog 16 #[.agg #[.pointer (pa t)], .string q] W fun e w' => e = .returned (.tuple #[.int .i64 v, .bool b]) ∧ Below W.heap.size W w' := by
  have h2 := pm_MGetI t q W h
  have h1 : (valOr (seek q t), isNI (seek q t)) = (v, b) := hp
  rw [(Prod.mk.inj h1).1, (Prod.mk.inj h1).2] at h2
  exact h2
theorem row2 {w : World} {b : Nat} {T : TypeId} {x y : Value} (h : w.heap[b]? = some (.cells #[x, y] T (0, 0))) : w.cell? ⟨b, 0, none⟩ = some x ∧ w.cell? ⟨b, 1, none⟩ = some y := ⟨cell_of_row _ _ 0 _ _ _ h, cell_of_row _ _ 1 _ _ _ h⟩
set_option maxRecDepth 100000 in
set_option maxHeartbeats 8000000 in
theorem wl_Elements (x : Thr) (w : World) (hx : x.At w) : Calls Try.prog 4 #[.agg x.vs] w fun e w' => e = .returned (.bool true) ∧ Below w.heap.size w w' := by
  obtain ⟨z, hz0⟩ : ∃ z, w.heap.size = z := ⟨_, rfl⟩
  obtain ⟨w1, hw1⟩ : ∃ W, w.alloc (.cells x.vs 25) = W := ⟨_, rfl⟩
  have hb : Below w.heap.size w w1 := by rw [← hw1]; exact below_new _ _
  have r0 : w1.heap[z]? = some (.cells x.vs 25 (0, 0)) := by rw [← hw1, ← hz0]; exact heap_alloc_new _ _
  have HW := Lib.hid hw1
  have HX := Lib.hid (hx.below hb)
  have B1 := Lib.hid hb
  have R0 := Lib.hid r0
  have cs := row8 r0
  clear hw1 hx hb r0
  go_enter Try.func4, Try.ntmps4
  go_upto_region 1 with (fail)
  rw [HW.out]
  obtain ⟨s0, s1, s2, s3, s4, s5, s6, s7⟩ := cs
  go_wp2_with fail
  refine (wl_few x w1).mono ?_
  rintro e w2 ⟨rfl, hb⟩
  have B2 : Hid (Below w.heap.size w w2) := Lib.hid (B1.out.trans (hb.mono B1.out.size))
  have R2 := Lib.hid (boxStays R0.out hb)
  have X2 := Lib.hid (HX.out.below hb)
  clear hb R0 HX B1 HW s0 s1 s2 s3 s4 s5 s6 s7
  cases hfew : x.few with
  | false =>
    go_wp2_with fail
    refine (wl_known w2).mono ?_
    rintro e w3 ⟨rfl, hb⟩
    go_wp2_with fail
    go_ret
    exact ⟨rfl, B2.out.trans (hb.mono B2.out.size)⟩
  | true =>
    obtain ⟨s0, s1, s2, s3, s4, s5, s6, s7⟩ := row8 R2.out
    go_wp2_with fail
    refine (wl_maps x w2 X2.out hfew).mono ?_
    rintro e w3 ⟨s, a, b, rfl, gs, ga, gb, zs, za, zb, hs, ha, hbt, hb⟩
    clear s0 s1 s2 s3 s4 s5 s6 s7 hfew
    go_upto_region 4 with (fail)
    obtain ⟨c, hc⟩ : ∃ c, w3.heap.size = c := ⟨_, rfl⟩
    rw [hc]
    obtain ⟨v3, hv3⟩ : ∃ W, allocs w3 [.cells #[.pointer (pa s)] 29, .cells #[.pointer (pa a)] 29, .cells #[.pointer (pa b)] 29] = W := ⟨_, rfl⟩
    rw [show ((w3.alloc (.cells #[.pointer (pa s)] 29)).alloc (.cells #[.pointer (pa a)] 29)).alloc (.cells #[.pointer (pa b)] 29) = v3 from hv3]
    have hb3 : Below w3.heap.size w3 v3 := by rw [← hv3]; exact allocs_below _ _
    have hx3 : ∀ i ob, [Obj.cells #[.pointer (pa s)] 29, .cells #[.pointer (pa a)] 29, .cells #[.pointer (pa b)] 29][i]? = some ob → v3.heap[c + i]? = some ob := fun i ob h => by have := allocs_get _ w3 i ob h; rw [hv3, hc] at this; exact this
    have F3 : Hid (Facts [(c, .cells #[.pointer (pa s)] 29 (0, 0)), (c + 1, .cells #[.pointer (pa a)] 29 (0, 0)), (c + 1 + 1, .cells #[.pointer (pa b)] 29 (0, 0))] v3) := Lib.hid (fun p hp => by
      simp only [List.mem_cons, List.not_mem_nil, or_false] at hp
      rcases hp with rfl | rfl | rfl
      · exact hx3 0 _ rfl
      · exact hx3 1 _ rfl
      · exact hx3 2 _ rfl)
    have B3 : Hid (Below w.heap.size w v3) := Lib.hid (B2.out.trans ((hb.trans (hb3.mono hb.size)).mono B2.out.size))
    have T3 : Hid (AtI v3 s ∧ AtI v3 a ∧ AtI v3 b) := Lib.hid ⟨hs.below hb3 rfl, ha.below hb3 rfl, hbt.below hb3 rfl⟩
    have GD : Hid (Gd s ∧ Gd a ∧ Gd b) := Lib.hid ⟨gs, ga, gb⟩
    have hcw : w.heap.size ≤ c := by have := B2.out.size; have := hb.size; omega
    clear hs ha hbt hb hb3 hx3 hv3 gs ga gb B2 R2 X2
    have hzs := GD.out
    have k1 : v3.cell? ⟨c, 0, none⟩ = some (.pointer (pa s)) := F3.out.cell (t := 29) (by simp)
    have k2 : v3.cell? ⟨c + 1, 0, none⟩ = some (.pointer (pa a)) := F3.out.cell (t := 29) (by simp)
    have k3 : v3.cell? ⟨c + 1 + 1, 0, none⟩ = some (.pointer (pa b)) := F3.out.cell (t := 29) (by simp)
    have W1 := Lib.hid (wlk_in ⟨hzs.1.1, hzs.1.2.1⟩ ⟨hzs.2.1.1, hzs.2.1.2.1⟩ ⟨hzs.2.2.1, hzs.2.2.2.1⟩)
    have W2 := Lib.hid (wlk_in ⟨hzs.1.1, hzs.1.2.1⟩ ⟨hzs.2.2.1, hzs.2.2.2.1⟩ ⟨hzs.2.1.1, hzs.2.1.2.1⟩)
    clear hzs
    go_wp2_with fail
    refine (wk_ElementsI s a b v3 (by omega) (by omega) W1.out T3.out.1 T3.out.2.1 T3.out.2.2).mono ?_
    rintro e w4 ⟨m, asked, made, rfl, hO, hm, hmd, _, hb, _⟩
    have O1 := Lib.hid hO
    have HMD := Lib.hid hmd
    clear hmd
    go_upto_region 5 with (fail)
    obtain ⟨e0, hc4⟩ : ∃ c, w4.heap.size = c := ⟨_, rfl⟩
    rw [hc4]
    obtain ⟨q4, hq4⟩ : ∃ q : Nat, asked.length = q := ⟨_, rfl⟩
    rw [hq4]
    obtain ⟨v4, hv4⟩ : ∃ W, allocs w4 [.cells #[.pointer (pa m)] 29, .cells #[.int .i64 (q4 : Int), .int .i64 (q4 : Int), .int .i64 (made : Int)] 36] = W := ⟨_, rfl⟩
    rw [show (w4.alloc (.cells #[.pointer (pa m)] 29)).alloc (.cells #[.int .i64 (q4 : Int), .int .i64 (q4 : Int), .int .i64 (made : Int)] 36) = v4 from hv4]
    have hb4 : Below w4.heap.size w4 v4 := by rw [← hv4]; exact allocs_below _ _
    have hbb := hb.trans (hb4.mono hb.size)
    have y0 : v4.heap[e0]? = some (.cells #[.pointer (pa m)] 29 (0, 0)) := by
      have := allocs_get [.cells #[.pointer (pa m)] 29, .cells #[.int .i64 (q4 : Int), .int .i64 (q4 : Int), .int .i64 (made : Int)] 36] w4 0 _ rfl
      rw [hv4, hc4] at this; exact this
    have y1 : v4.heap[e0 + 1]? = some (.cells #[.int .i64 (q4 : Int), .int .i64 (q4 : Int), .int .i64 (made : Int)] 36 (0, 0)) := by
      have := allocs_get [.cells #[.pointer (pa m)] 29, .cells #[.int .i64 (q4 : Int), .int .i64 (q4 : Int), .int .i64 (made : Int)] 36] w4 1 _ rfl
      rw [hv4, hc4] at this; exact this
    have F4 := Lib.hid (((F3.out.below hbb).cons y1).cons y0)
    have B4 : Hid (Below w.heap.size w v4) := Lib.hid (B3.out.trans (hbb.mono B3.out.size))
    have T4 : Hid (AtI v4 s ∧ AtI v4 a ∧ AtI v4 b ∧ AtI v4 m) := Lib.hid ⟨T3.out.1.below hbb rfl, T3.out.2.1.below hbb rfl, T3.out.2.2.below hbb rfl, hm.below hb4 rfl⟩
    clear hb hb4 hbb hv4 hc4 F3 B3 T3 hm hO hq4 k1 k2 k3 y0 y1 W1
    have k1 : v4.cell? ⟨c, 0, none⟩ = some (.pointer (pa s)) := F4.out.cell (t := 29) (by simp)
    have k2 : v4.cell? ⟨c + 1, 0, none⟩ = some (.pointer (pa a)) := F4.out.cell (t := 29) (by simp)
    have k3 : v4.cell? ⟨c + 1 + 1, 0, none⟩ = some (.pointer (pa b)) := F4.out.cell (t := 29) (by simp)
    go_wp2_with fail
    refine (wk_ElementsI s b a v4 (by omega) (by omega) W2.out T4.out.1 T4.out.2.2.1 T4.out.2.1).mono ?_
    rintro e w5 ⟨n, asked2, made2, rfl, hO, hm, _, _, hb, _⟩
    have O2 := Lib.hid hO
    go_upto_region 6 with (fail)
    obtain ⟨e1, hc4⟩ : ∃ c, w5.heap.size = c := ⟨_, rfl⟩
    rw [hc4]
    obtain ⟨q5, hq4⟩ : ∃ q : Nat, asked2.length = q := ⟨_, rfl⟩
    rw [hq4]
    obtain ⟨v5, hv4⟩ : ∃ W, allocs w5 [.cells #[.pointer (pa n)] 29, .cells #[.int .i64 (q5 : Int), .int .i64 (q5 : Int), .int .i64 (made2 : Int)] 36] = W := ⟨_, rfl⟩
    rw [show (w5.alloc (.cells #[.pointer (pa n)] 29)).alloc (.cells #[.int .i64 (q5 : Int), .int .i64 (q5 : Int), .int .i64 (made2 : Int)] 36) = v5 from hv4]
    have hb4 : Below w5.heap.size w5 v5 := by rw [← hv4]; exact allocs_below _ _
    have hbb := hb.trans (hb4.mono hb.size)
    have y0 : v5.heap[e1]? = some (.cells #[.pointer (pa n)] 29 (0, 0)) := by
      have := allocs_get [.cells #[.pointer (pa n)] 29, .cells #[.int .i64 (q5 : Int), .int .i64 (q5 : Int), .int .i64 (made2 : Int)] 36] w5 0 _ rfl
      rw [hv4, hc4] at this; exact this
    have F5 := Lib.hid ((F4.out.below hbb).cons y0)
    have B5 : Hid (Below w.heap.size w v5) := Lib.hid (B4.out.trans (hbb.mono B4.out.size))
    have T5 : Hid (∀ t ∈ [s, a, b, m, n], AtI v5 t) := Lib.hid (by
      intro t ht
      simp only [List.mem_cons, List.not_mem_nil, or_false] at ht
      rcases ht with rfl | rfl | rfl | rfl | rfl
      · exact T4.out.1.below hbb rfl
      · exact T4.out.2.1.below hbb rfl
      · exact T4.out.2.2.1.below hbb rfl
      · exact T4.out.2.2.2.below hbb rfl
      · exact hm.below hb4 rfl)
    clear hb hb4 hbb hv4 hc4 F4 B4 T4 hm hO hq4 k1 k2 k3 y0 W2
    have k1 : v5.cell? ⟨c, 0, none⟩ = some (.pointer (pa s)) := F5.out.cell (t := 29) (by simp)
    have k2 : v5.cell? ⟨c + 1, 0, none⟩ = some (.pointer (pa a)) := F5.out.cell (t := 29) (by simp)
    have k3 : v5.cell? ⟨c + 1 + 1, 0, none⟩ = some (.pointer (pa b)) := F5.out.cell (t := 29) (by simp)
    have hb6 := below_new v5 (.cells #[.pointer (pa s), .pointer (pa a), .pointer (pa b)] 29)
    have KEYS := Lib.hid (wl_keys [s, a, b] (some ⟨v5.heap.size, 0, none⟩) 3 _ (CellsAt.new v5 29 (0, 0) (ptrV [s, a, b])) (fun t ht => ⟨(T5.out t (by simp at ht ⊢; rcases ht with h | h | h <;> simp [h])).below hb6 rfl, by simp at ht; rcases ht with rfl | rfl | rfl <;> omega⟩) (by simp))
    have F6 := Lib.hid (F5.out.below hb6)
    have B6 : Hid (Below w.heap.size w (v5.alloc (.cells #[.pointer (pa s), .pointer (pa a), .pointer (pa b)] 29))) := Lib.hid (B5.out.trans (hb6.mono B5.out.size))
    have T6 : Hid (∀ t ∈ [s, a, b, m, n], AtI (v5.alloc (.cells #[.pointer (pa s), .pointer (pa a), .pointer (pa b)] 29)) t) := Lib.hid (fun t ht => (T5.out t ht).below hb6 rfl)
    clear hb6 F5 B5 T5
    go_wp2_with fail
    refine KEYS.out.mono ?_
    rintro e w7 ⟨lv, rfl, hown, hb⟩
    obtain ⟨L, hL⟩ : ∃ L, keysL [s, a, b] = L := ⟨_, rfl⟩
    rw [hL] at hown
    obtain ⟨N, hN⟩ : ∃ N, L.length = N := ⟨_, rfl⟩
    rw [hN] at hown
    obtain ⟨ka, kc, rfl⟩ := own_shape1 hown
    have hNl : N ≤ 240 := by
      rw [← hN, ← hL]
      have := keysL_len [s, a, b] 80 (by intro t ht; simp at ht; rcases ht with rfl | rfl | rfl <;> omega)
      simpa using this
    obtain ⟨H, hH⟩ : ∃ H : List (Nat × Obj), [(e1, .cells #[.pointer (pa n)] 29 (0, 0)), (e0, .cells #[.pointer (pa m)] 29 (0, 0)), (e0 + 1, .cells #[.int .i64 (q4 : Int), .int .i64 (q4 : Int), .int .i64 (made : Int)] 36 (0, 0)), (c, .cells #[.pointer (pa s)] 29 (0, 0)), (c + 1, .cells #[.pointer (pa a)] 29 (0, 0)), (c + 1 + 1, .cells #[.pointer (pa b)] 29 (0, 0))] = H := ⟨_, rfl⟩
    have EE : Hid (ElE H [s, a, b, m, n] ka L w w7) := Lib.hid ⟨by rw [← hH]; exact F6.out.below hb, fun t ht => (T6.out t ht).below hb rfl, CellsAt.own hown, B6.out.trans (hb.mono B6.out.size)⟩
    have HM : Hid ((e1, Obj.cells #[.pointer (pa n)] 29 (0, 0)) ∈ H ∧ (e0, Obj.cells #[.pointer (pa m)] 29 (0, 0)) ∈ H ∧ (e0 + 1, Obj.cells #[.int .i64 (q4 : Int), .int .i64 (q4 : Int), .int .i64 (made : Int)] 36 (0, 0)) ∈ H ∧ (c, Obj.cells #[.pointer (pa s)] 29 (0, 0)) ∈ H ∧ (c + 1, Obj.cells #[.pointer (pa a)] 29 (0, 0)) ∈ H ∧ (c + 1 + 1, Obj.cells #[.pointer (pa b)] 29 (0, 0)) ∈ H) := Lib.hid (by rw [← hH]; simp)
    have HL := Lib.hid hL
    have HN := Lib.hid hN
    clear hown hb F6 B6 T6 KEYS hL hN k1 k2 k3 hH
    go_wp2_with fail
    go_loopw [11, 12] (fun u11 u12 wr => ∃ i : Nat, u12 = .int .i64 (i : Int) ∧ u11 = .int .i64 ((cntF s a b L i : Nat) : Int) ∧ i ≤ N ∧ Hid (ElE H [s, a, b, m, n] ka L w wr)) (fun _ u12 _ => N - (intOf u12).toNat)
    case atStart => exact ⟨0, rfl, rfl, Nat.zero_le _, EE⟩
    case round =>
      clear EE
      obtain ⟨i, rfl, rfl, hi, E⟩ := hrel
      by_cases hlt : i < N
      · have hli : (i : Int) < (N : Int) := by omega
        have hil : i < L.length := by rw [HN.out]; exact hlt
        obtain ⟨q, hq⟩ : ∃ q, L[i]'hil = q := ⟨_, rfl⟩
        have hqs : L[i]? = some q := by rw [List.getElem?_eq_getElem hil, hq]
        obtain ⟨bk, ok, hak, hck⟩ := E.out.k.get i (.string q) (by simp [strV, hqs])
        subst hak
        have HCK := Lib.hid hck
        have HQ := Lib.hid hqs
        clear hqs hq hck
        obtain ⟨cn, hcn⟩ : ∃ cn, cntF s a b L i = cn := ⟨_, rfl⟩
        have HCN := Lib.hid hcn
        rw [hcn]
        clear hcn
        go_wp2_with fail
        go_cut [13, 14, 15] (fun s13 s14 s15 wx => ∃ c13 c14 c15 : Nat, s13 = .pointer (some ⟨c13, 0, none⟩) ∧ s14 = .pointer (some ⟨c14, 0, none⟩) ∧ s15 = .pointer (some ⟨c15, 0, none⟩) ∧ Hid (wx.heap[c13]? = some (.cells #[.int .i64 (prtTI s q).1, .bool (prtTI s q).2] 33 (0, 0)) ∧ wx.heap[c14]? = some (.cells #[.int .i64 (prtTI a q).1, .bool (prtTI a q).2] 33 (0, 0)) ∧ wx.heap[c15]? = some (.cells #[.int .i64 (prtTI b q).1, .bool (prtTI b q).2] 33 (0, 0))) ∧ Hid (ElE H [s, a, b, m, n] (some ⟨bk, ok, none⟩) L w wx))
        case first =>
          refine wp_named fun base hbase => ?_
          have b3 : base.getD 3 undef = .pointer (some ⟨c, 0, none⟩) := by rw [hbase]; rfl
          have b4 : base.getD 4 undef = .pointer (some ⟨c + 1, 0, none⟩) := by rw [hbase]; rfl
          have b5 : base.getD 5 undef = .pointer (some ⟨c + 1 + 1, 0, none⟩) := by rw [hbase]; rfl
          have b10 : base.getD 10 undef = .slice (some ⟨bk, ok, none⟩) N kc := by rw [hbase]; rfl
          have b12 : base.getD 12 undef = .int .i64 (i : Int) := by rw [hbase]; rfl
          have bsz : 80 ≤ base.size := by rw [hbase]; simp
          have HBA := Lib.hid hbase
          clear hbase
          obtain ⟨slots, hsl⟩ : ∃ l : List Nat, [13, 14, 15, 60, 61, 62, 63, 64, 65, 66, 67, 68, 69, 70, 71, 72, 73, 74, 75, 76, 77] = l := ⟨_, rfl⟩
          obtain ⟨val, hval⟩ : ∃ val : Nat → Value, (fun j => match j with | 0 => (.agg #[.pointer (pa s)] : Value) | 1 => (.slice (some ⟨bk, ok, none⟩) N kc : Value) | 2 => (.int .i64 (i : Int) : Value) | 3 => (.pointer (some ⟨bk, ok + i, none⟩) : Value) | 4 => (.string q : Value) | 5 => (prtVI (prtTI s q) : Value) | 6 => (.agg #[.pointer (pa a)] : Value) | 7 => (.slice (some ⟨bk, ok, none⟩) N kc : Value) | 8 => (.int .i64 (i : Int) : Value) | 9 => (.pointer (some ⟨bk, ok + i, none⟩) : Value) | 10 => (.string q : Value) | 11 => (prtVI (prtTI a q) : Value) | 12 => (.agg #[.pointer (pa b)] : Value) | 13 => (.slice (some ⟨bk, ok, none⟩) N kc : Value) | 14 => (.int .i64 (i : Int) : Value) | 15 => (.pointer (some ⟨bk, ok + i, none⟩) : Value) | 16 => (.string q : Value) | 17 => (prtVI (prtTI b q) : Value) | _ => undef) = val := ⟨_, rfl⟩
          have vl0 : val 0 = .agg #[.pointer (pa s)] := congrFun hval.symm 0
          have vl1 : val 1 = .slice (some ⟨bk, ok, none⟩) N kc := congrFun hval.symm 1
          have vl2 : val 2 = .int .i64 (i : Int) := congrFun hval.symm 2
          have vl3 : val 3 = .pointer (some ⟨bk, ok + i, none⟩) := congrFun hval.symm 3
          have vl4 : val 4 = .string q := congrFun hval.symm 4
          have vl5 : val 5 = prtVI (prtTI s q) := congrFun hval.symm 5
          have vl6 : val 6 = .agg #[.pointer (pa a)] := congrFun hval.symm 6
          have vl7 : val 7 = .slice (some ⟨bk, ok, none⟩) N kc := congrFun hval.symm 7
          have vl8 : val 8 = .int .i64 (i : Int) := congrFun hval.symm 8
          have vl9 : val 9 = .pointer (some ⟨bk, ok + i, none⟩) := congrFun hval.symm 9
          have vl10 : val 10 = .string q := congrFun hval.symm 10
          have vl11 : val 11 = prtVI (prtTI a q) := congrFun hval.symm 11
          have vl12 : val 12 = .agg #[.pointer (pa b)] := congrFun hval.symm 12
          have vl13 : val 13 = .slice (some ⟨bk, ok, none⟩) N kc := congrFun hval.symm 13
          have vl14 : val 14 = .int .i64 (i : Int) := congrFun hval.symm 14
          have vl15 : val 15 = .pointer (some ⟨bk, ok + i, none⟩) := congrFun hval.symm 15
          have vl16 : val 16 = .string q := congrFun hval.symm 16
          have vl17 : val 17 = prtVI (prtTI b q) := congrFun hval.symm 17
          obtain ⟨V, hV⟩ : ∃ V : List (Nat × Nat × Value), (List.range 18).map (fun j => (j, 60 + j, val j)) = V := ⟨_, rfl⟩
          have hVm : ∀ j, j < 18 → (j, 60 + j, val j) ∈ V := fun j hj => by rw [← hV]; exact List.mem_map.2 ⟨j, List.mem_range.2 hj, rfl⟩
          have hVi : ∀ j, j < 18 → ∀ p ∈ V, (p.1 = j ↔ p.2.1 = 60 + j) ∧ (p.1 = j → p.2.2 = val j) := fun j hj p hp => by
            rw [← hV] at hp
            obtain ⟨k, _, rfl⟩ := List.mem_map.1 hp
            dsimp only
            exact ⟨by omega, fun e => by rw [e]⟩
          have hs1 : ∀ k, 60 ≤ k → k < 78 → slots.contains k = true := fun k h1 h2 => by rw [← hsl]; simp; omega
          have hs2 : ∀ k, 60 ≤ k → k < 78 → k ∈ slots := fun k h1 h2 => by rw [← hsl]; simp; omega
          have hs3 : ∀ k, k < 13 → k ∉ slots := fun k h1 => by rw [← hsl]; simp; omega
          have hs4 : ∀ k, 13 ≤ k → k < 16 → k ∈ slots := fun k h1 h2 => by rw [← hsl]; simp; omega
          have bszz : 80 ≤ base.size := bsz
          obtain ⟨vv, hvv⟩ : ∃ vv : Nat → Array Value, (fun d => match d with | 13 => #[.int .i64 (prtTI s q).1, .bool (prtTI s q).2] | 14 => #[.int .i64 (prtTI a q).1, .bool (prtTI a q).2] | _ => #[.int .i64 (prtTI b q).1, .bool (prtTI b q).2]) = vv := ⟨_, rfl⟩
          have vv13 : vv 13 = #[.int .i64 (prtTI s q).1, .bool (prtTI s q).2] := congrFun hvv.symm 13
          have vv14 : vv 14 = #[.int .i64 (prtTI a q).1, .bool (prtTI a q).2] := congrFun hvv.symm 14
          have vv15 : vv 15 = #[.int .i64 (prtTI b q).1, .bool (prtTI b q).2] := congrFun hvv.symm 15
          obtain ⟨rows, hrw⟩ : ∃ l : List (Nat × Nat × Nat), [(18, 21, 13), (19, 22, 14), (20, 23, 15)] = l := ⟨_, rfl⟩
          have hrk : rowsOK rows = true := by rw [← hrw]; decide
          have hr1 : (18, 21, 13) ∈ rows := by rw [← hrw]; decide
          have hr2 : (19, 22, 14) ∈ rows := by rw [← hrw]; decide
          have hr3 : (20, 23, 15) ∈ rows := by rw [← hrw]; decide
          have hrl : ∀ r ∈ rows, 18 ≤ r.1 ∧ 18 ≤ r.2.1 ∧ r.2.2 < 60 := by rw [← hrw]; decide
          obtain ⟨M, hMd⟩ : ∃ M : (Nat → Bool) → (Nat → Value) → World → Prop, (fun X f w1 => Hid (Below wr.heap.size wr w1) ∧ Als 33 wr.heap.size rows #[.int .i64 0, .bool false] vv X f w1) = M := ⟨_, rfl⟩
          have hM : ∀ i d v, i < 18 → 60 ≤ d → ∀ X f w1 w2, M X f w1 → Below w1.heap.size w1 w2 → M (fun j => j == i || X j) (updF f d v) w2 := by
            rw [← hMd]
            rintro i d v hi hd X f w1 w2 ⟨h1, h2⟩ hb
            have e : ∀ j, 18 ≤ j → (j == i || X j) = X j := fun j hj => by rw [show (j == i) = false from (by simp; omega)]; rfl
            have u : ∀ k, k < 60 → updF f d v k = f k := fun k hk => by unfold updF; rw [if_neg (by omega)]
            exact ⟨Lib.hid (h1.out.trans (hb.mono h1.out.size)), h2.keep hb fun r hr => ⟨e _ (hrl r hr).1, e _ (hrl r hr).2.1, u _ (hrl r hr).2.2⟩⟩
          have hME : ∀ X f w1, M X f w1 → ElE H [s, a, b, m, n] (some ⟨bk, ok, none⟩) L w w1 := by rw [← hMd]; rintro X f w1 ⟨h1, _⟩; exact E.out.below h1.out
          have HMD2 := Lib.hid hMd
          have hst : M (fun _ => false) (fun k => base.getD k undef) wr.drew := by
            rw [← hMd]
            exact ⟨Lib.hid (Below.refl _ wr).drew, Als.start fun _ => rfl⟩
          have hVr : ∀ p ∈ V, p.1 < 18 ∧ p.2.1 = 60 + p.1 := fun p hp => by
            rw [← hV] at hp
            obtain ⟨k, hk, rfl⟩ := List.mem_map.1 hp
            exact ⟨List.mem_range.1 hk, rfl⟩
          have hJ : ∀ (X : Nat → Bool) (f g : Nat → Value) (k : Nat) (w1 : World) (t : Array Value), 18 ≤ k → (∀ p ∈ V, X p.1 = true → f p.2.1 = p.2.2) → (∀ j, 60 ≤ j → g j = f j) → t = regT base slots g → M (fun j => j == k || X j) g w1 → RegJ base [] slots V M (fun j => j == k || X j) { tmps := t, defers := [] } w1 := by
            rintro X f g k w1 t hk hv hg rfl hm
            refine ⟨g, rfl, fun p hp hX => ?_, hm⟩
            obtain ⟨e1, e2⟩ := hVr p hp
            rw [hg _ (by omega)]
            refine hv p hp ?_
            have hX2 : (p.1 == k || X p.1) = true := hX
            rw [show (p.1 == k) = false from (by simp; omega)] at hX2
            exact hX2
          clear hMd hval hV
          refine region_inv (RegJ base [] slots V M) (by kernel_rfl) (by kernel_rfl) (regJ_start hst) ?_ ?_
          · intro k hk
            have hk24 : k < 24 := hk
            have hk' : k = 0 ∨ k = 1 ∨ k = 2 ∨ k = 3 ∨ k = 4 ∨ k = 5 ∨ k = 6 ∨ k = 7 ∨ k = 8 ∨ k = 9 ∨ k = 10 ∨ k = 11 ∨ k = 12 ∨ k = 13 ∨ k = 14 ∨ k = 15 ∨ k = 16 ∨ k = 17 ∨ k = 18 ∨ k = 19 ∨ k = 20 ∨ k = 21 ∨ k = 22 ∨ k = 23 := by omega
            rcases hk' with rfl | rfl | rfl | rfl | rfl | rfl | rfl | rfl | rfl | rfl | rfl | rfl | rfl | rfl | rfl | rfl | rfl | rfl | rfl | rfl | rfl | rfl | rfl | rfl
            · refine regJ_fixed (d := 60) (v := val 0) rfl rfl rfl (hs1 60 (by omega) (by omega)) (hVi 0 (by omega)) (fun w w' => Below w.heap.size w w') (hM 0 60 _ (by omega) (by omega)) ?_
              intro X f w1 hv hm hp K hK
              have EM := hME X f w1 hm
              rw [vl0] at hK
              have e3 : (regT base slots f).getD 3 undef = _ := (regT_out (hs3 3 (by omega))).trans b3
              have k1 : w1.cell? ⟨c, 0, none⟩ = some (.pointer (pa s)) := EM.f.cell (t := 29) HM.out.2.2.2.1
              clear hv hm hp EM
              go_simp
              exact hK.out w1 (Below.refl _ _)
            · refine regJ_fixed (d := 61) (v := val 1) rfl rfl rfl (hs1 61 (by omega) (by omega)) (hVi 1 (by omega)) (fun w w' => Below w.heap.size w w') (hM 1 61 _ (by omega) (by omega)) ?_
              intro X f w1 hv hm hp K hK
              have EM := hME X f w1 hm
              rw [vl1] at hK
              have e10 : (regT base slots f).getD 10 undef = _ := (regT_out (hs3 10 (by omega))).trans b10
              clear hv hm hp EM
              go_simp
              exact hK.out w1 (Below.refl _ _)
            · refine regJ_fixed (d := 62) (v := val 2) rfl rfl rfl (hs1 62 (by omega) (by omega)) (hVi 2 (by omega)) (fun w w' => Below w.heap.size w w') (hM 2 62 _ (by omega) (by omega)) ?_
              intro X f w1 hv hm hp K hK
              have EM := hME X f w1 hm
              rw [vl2] at hK
              have e12 : (regT base slots f).getD 12 undef = _ := (regT_out (hs3 12 (by omega))).trans b12
              clear hv hm hp EM
              go_simp
              exact hK.out w1 (Below.refl _ _)
            · refine regJ_fixed (d := 63) (v := val 3) rfl rfl rfl (hs1 63 (by omega) (by omega)) (hVi 3 (by omega)) (fun w w' => Below w.heap.size w w') (hM 3 63 _ (by omega) (by omega)) ?_
              intro X f w1 hv hm hp K hK
              have EM := hME X f w1 hm
              rw [vl3] at hK
              have e61 : (regT base slots f).getD 61 undef = .slice (some ⟨bk, ok, none⟩) N kc := (regT_in (hs2 61 (by omega) (by omega)) (by omega)).trans ((hv _ (hVm 1 (by omega)) (hp 1 (of_decide_eq_true (by kernel_rfl)))).trans vl1)
              have e62 : (regT base slots f).getD 62 undef = .int .i64 (i : Int) := (regT_in (hs2 62 (by omega) (by omega)) (by omega)).trans ((hv _ (hVm 2 (by omega)) (hp 2 (of_decide_eq_true (by kernel_rfl)))).trans vl2)
              clear hv hm hp EM
              go_simp
              exact hK.out w1 (Below.refl _ _)
            · refine regJ_fixed (d := 64) (v := val 4) rfl rfl rfl (hs1 64 (by omega) (by omega)) (hVi 4 (by omega)) (fun w w' => Below w.heap.size w w') (hM 4 64 _ (by omega) (by omega)) ?_
              intro X f w1 hv hm hp K hK
              have EM := hME X f w1 hm
              rw [vl4] at hK
              have e63 : (regT base slots f).getD 63 undef = .pointer (some ⟨bk, ok + i, none⟩) := (regT_in (hs2 63 (by omega) (by omega)) (by omega)).trans ((hv _ (hVm 3 (by omega)) (hp 3 (of_decide_eq_true (by kernel_rfl)))).trans vl3)
              obtain ⟨b', o', h1, k1⟩ := EM.k.get i (.string q) (by simp [strV, HQ.out])
              cases h1
              clear hv hm hp EM
              go_simp
              exact hK.out w1 (Below.refl _ _)
            · refine regJ_fixed (d := 65) (v := val 5) rfl rfl rfl (hs1 65 (by omega) (by omega)) (hVi 5 (by omega)) (fun w w' => Below w.heap.size w w') (hM 5 65 _ (by omega) (by omega)) ?_
              intro X f w1 hv hm hp K hK
              have EM := hME X f w1 hm
              rw [vl5] at hK
              have e60 : (regT base slots f).getD 60 undef = .agg #[.pointer (pa s)] := (regT_in (hs2 60 (by omega) (by omega)) (by omega)).trans ((hv _ (hVm 0 (by omega)) (hp 0 (of_decide_eq_true (by kernel_rfl)))).trans vl0)
              have e64 : (regT base slots f).getD 64 undef = .string q := (regT_in (hs2 64 (by omega) (by omega)) (by omega)).trans ((hv _ (hVm 4 (by omega)) (hp 4 (of_decide_eq_true (by kernel_rfl)))).trans vl4)
              have AT := EM.t _ List.mem_cons_self
              clear hv hm hp EM
              go_simp
              refine (wk_part s q w1 AT).mono ?_
              rintro e w2 ⟨rfl, hb⟩
              exact hK.out w2 hb
            · refine regJ_fixed (d := 66) (v := val 6) rfl rfl rfl (hs1 66 (by omega) (by omega)) (hVi 6 (by omega)) (fun w w' => Below w.heap.size w w') (hM 6 66 _ (by omega) (by omega)) ?_
              intro X f w1 hv hm hp K hK
              have EM := hME X f w1 hm
              rw [vl6] at hK
              have e4 : (regT base slots f).getD 4 undef = _ := (regT_out (hs3 4 (by omega))).trans b4
              have k1 : w1.cell? ⟨c + 1, 0, none⟩ = some (.pointer (pa a)) := EM.f.cell (t := 29) HM.out.2.2.2.2.1
              clear hv hm hp EM
              go_simp
              exact hK.out w1 (Below.refl _ _)
            · refine regJ_fixed (d := 67) (v := val 7) rfl rfl rfl (hs1 67 (by omega) (by omega)) (hVi 7 (by omega)) (fun w w' => Below w.heap.size w w') (hM 7 67 _ (by omega) (by omega)) ?_
              intro X f w1 hv hm hp K hK
              have EM := hME X f w1 hm
              rw [vl7] at hK
              have e10 : (regT base slots f).getD 10 undef = _ := (regT_out (hs3 10 (by omega))).trans b10
              clear hv hm hp EM
              go_simp
              exact hK.out w1 (Below.refl _ _)
            · refine regJ_fixed (d := 68) (v := val 8) rfl rfl rfl (hs1 68 (by omega) (by omega)) (hVi 8 (by omega)) (fun w w' => Below w.heap.size w w') (hM 8 68 _ (by omega) (by omega)) ?_
              intro X f w1 hv hm hp K hK
              have EM := hME X f w1 hm
              rw [vl8] at hK
              have e12 : (regT base slots f).getD 12 undef = _ := (regT_out (hs3 12 (by omega))).trans b12
              clear hv hm hp EM
              go_simp
              exact hK.out w1 (Below.refl _ _)
            · refine regJ_fixed (d := 69) (v := val 9) rfl rfl rfl (hs1 69 (by omega) (by omega)) (hVi 9 (by omega)) (fun w w' => Below w.heap.size w w') (hM 9 69 _ (by omega) (by omega)) ?_
              intro X f w1 hv hm hp K hK
              have EM := hME X f w1 hm
              rw [vl9] at hK
              have e67 : (regT base slots f).getD 67 undef = .slice (some ⟨bk, ok, none⟩) N kc := (regT_in (hs2 67 (by omega) (by omega)) (by omega)).trans ((hv _ (hVm 7 (by omega)) (hp 7 (of_decide_eq_true (by kernel_rfl)))).trans vl7)
              have e68 : (regT base slots f).getD 68 undef = .int .i64 (i : Int) := (regT_in (hs2 68 (by omega) (by omega)) (by omega)).trans ((hv _ (hVm 8 (by omega)) (hp 8 (of_decide_eq_true (by kernel_rfl)))).trans vl8)
              clear hv hm hp EM
              go_simp
              exact hK.out w1 (Below.refl _ _)
            · refine regJ_fixed (d := 70) (v := val 10) rfl rfl rfl (hs1 70 (by omega) (by omega)) (hVi 10 (by omega)) (fun w w' => Below w.heap.size w w') (hM 10 70 _ (by omega) (by omega)) ?_
              intro X f w1 hv hm hp K hK
              have EM := hME X f w1 hm
              rw [vl10] at hK
              have e69 : (regT base slots f).getD 69 undef = .pointer (some ⟨bk, ok + i, none⟩) := (regT_in (hs2 69 (by omega) (by omega)) (by omega)).trans ((hv _ (hVm 9 (by omega)) (hp 9 (of_decide_eq_true (by kernel_rfl)))).trans vl9)
              obtain ⟨b', o', h1, k1⟩ := EM.k.get i (.string q) (by simp [strV, HQ.out])
              cases h1
              clear hv hm hp EM
              go_simp
              exact hK.out w1 (Below.refl _ _)
            · refine regJ_fixed (d := 71) (v := val 11) rfl rfl rfl (hs1 71 (by omega) (by omega)) (hVi 11 (by omega)) (fun w w' => Below w.heap.size w w') (hM 11 71 _ (by omega) (by omega)) ?_
              intro X f w1 hv hm hp K hK
              have EM := hME X f w1 hm
              rw [vl11] at hK
              have e66 : (regT base slots f).getD 66 undef = .agg #[.pointer (pa a)] := (regT_in (hs2 66 (by omega) (by omega)) (by omega)).trans ((hv _ (hVm 6 (by omega)) (hp 6 (of_decide_eq_true (by kernel_rfl)))).trans vl6)
              have e70 : (regT base slots f).getD 70 undef = .string q := (regT_in (hs2 70 (by omega) (by omega)) (by omega)).trans ((hv _ (hVm 10 (by omega)) (hp 10 (of_decide_eq_true (by kernel_rfl)))).trans vl10)
              have AT := EM.t _ (List.mem_cons_of_mem _ List.mem_cons_self)
              clear hv hm hp EM
              go_simp
              refine (wk_part a q w1 AT).mono ?_
              rintro e w2 ⟨rfl, hb⟩
              exact hK.out w2 hb
            · refine regJ_fixed (d := 72) (v := val 12) rfl rfl rfl (hs1 72 (by omega) (by omega)) (hVi 12 (by omega)) (fun w w' => Below w.heap.size w w') (hM 12 72 _ (by omega) (by omega)) ?_
              intro X f w1 hv hm hp K hK
              have EM := hME X f w1 hm
              rw [vl12] at hK
              have e5 : (regT base slots f).getD 5 undef = _ := (regT_out (hs3 5 (by omega))).trans b5
              have k1 : w1.cell? ⟨c + 1 + 1, 0, none⟩ = some (.pointer (pa b)) := EM.f.cell (t := 29) HM.out.2.2.2.2.2
              clear hv hm hp EM
              go_simp
              exact hK.out w1 (Below.refl _ _)
            · refine regJ_fixed (d := 73) (v := val 13) rfl rfl rfl (hs1 73 (by omega) (by omega)) (hVi 13 (by omega)) (fun w w' => Below w.heap.size w w') (hM 13 73 _ (by omega) (by omega)) ?_
              intro X f w1 hv hm hp K hK
              have EM := hME X f w1 hm
              rw [vl13] at hK
              have e10 : (regT base slots f).getD 10 undef = _ := (regT_out (hs3 10 (by omega))).trans b10
              clear hv hm hp EM
              go_simp
              exact hK.out w1 (Below.refl _ _)
            · refine regJ_fixed (d := 74) (v := val 14) rfl rfl rfl (hs1 74 (by omega) (by omega)) (hVi 14 (by omega)) (fun w w' => Below w.heap.size w w') (hM 14 74 _ (by omega) (by omega)) ?_
              intro X f w1 hv hm hp K hK
              have EM := hME X f w1 hm
              rw [vl14] at hK
              have e12 : (regT base slots f).getD 12 undef = _ := (regT_out (hs3 12 (by omega))).trans b12
              clear hv hm hp EM
              go_simp
              exact hK.out w1 (Below.refl _ _)
            · refine regJ_fixed (d := 75) (v := val 15) rfl rfl rfl (hs1 75 (by omega) (by omega)) (hVi 15 (by omega)) (fun w w' => Below w.heap.size w w') (hM 15 75 _ (by omega) (by omega)) ?_
              intro X f w1 hv hm hp K hK
              have EM := hME X f w1 hm
              rw [vl15] at hK
              have e73 : (regT base slots f).getD 73 undef = .slice (some ⟨bk, ok, none⟩) N kc := (regT_in (hs2 73 (by omega) (by omega)) (by omega)).trans ((hv _ (hVm 13 (by omega)) (hp 13 (of_decide_eq_true (by kernel_rfl)))).trans vl13)
              have e74 : (regT base slots f).getD 74 undef = .int .i64 (i : Int) := (regT_in (hs2 74 (by omega) (by omega)) (by omega)).trans ((hv _ (hVm 14 (by omega)) (hp 14 (of_decide_eq_true (by kernel_rfl)))).trans vl14)
              clear hv hm hp EM
              go_simp
              exact hK.out w1 (Below.refl _ _)
            · refine regJ_fixed (d := 76) (v := val 16) rfl rfl rfl (hs1 76 (by omega) (by omega)) (hVi 16 (by omega)) (fun w w' => Below w.heap.size w w') (hM 16 76 _ (by omega) (by omega)) ?_
              intro X f w1 hv hm hp K hK
              have EM := hME X f w1 hm
              rw [vl16] at hK
              have e75 : (regT base slots f).getD 75 undef = .pointer (some ⟨bk, ok + i, none⟩) := (regT_in (hs2 75 (by omega) (by omega)) (by omega)).trans ((hv _ (hVm 15 (by omega)) (hp 15 (of_decide_eq_true (by kernel_rfl)))).trans vl15)
              obtain ⟨b', o', h1, k1⟩ := EM.k.get i (.string q) (by simp [strV, HQ.out])
              cases h1
              clear hv hm hp EM
              go_simp
              exact hK.out w1 (Below.refl _ _)
            · refine regJ_fixed (d := 77) (v := val 17) rfl rfl rfl (hs1 77 (by omega) (by omega)) (hVi 17 (by omega)) (fun w w' => Below w.heap.size w w') (hM 17 77 _ (by omega) (by omega)) ?_
              intro X f w1 hv hm hp K hK
              have EM := hME X f w1 hm
              rw [vl17] at hK
              have e72 : (regT base slots f).getD 72 undef = .agg #[.pointer (pa b)] := (regT_in (hs2 72 (by omega) (by omega)) (by omega)).trans ((hv _ (hVm 12 (by omega)) (hp 12 (of_decide_eq_true (by kernel_rfl)))).trans vl12)
              have e76 : (regT base slots f).getD 76 undef = .string q := (regT_in (hs2 76 (by omega) (by omega)) (by omega)).trans ((hv _ (hVm 16 (by omega)) (hp 16 (of_decide_eq_true (by kernel_rfl)))).trans vl16)
              have AT := EM.t _ (List.mem_cons_of_mem _ (List.mem_cons_of_mem _ List.mem_cons_self))
              clear hv hm hp EM
              go_simp
              refine (wk_part b q w1 AT).mono ?_
              rintro e w2 ⟨rfl, hb⟩
              exact hK.out w2 hb
            · refine regJ_other rfl rfl ?_
              intro X f w1 hv hm hL hp K hK
              rw [← HMD2.out] at hm
              have hm2 : M (fun j => j == 18 || X j) (updF f 13 (.pointer (some ⟨w1.heap.size, 0, none⟩))) (w1.alloc (.cells #[.int .i64 0, .bool false] 33)) := by
                rw [← HMD2.out]
                exact ⟨Lib.hid (hm.1.out.trans ((below_new w1 _).mono hm.1.out.size)), hm.2.alloc hrk hm.1.out.size hr1 hL⟩
              have hgo := hJ X f _ 18 _ _ (by omega) hv (fun j hj => by unfold updF; rw [if_neg (by omega)]) (regT_put base slots f 13 (.pointer (some ⟨w1.heap.size, 0, none⟩)) (hs4 13 (by omega) (by omega))) hm2
              clear hm hm2 hv hp
              go_simp
              exact hK.out _ _ hgo
            · refine regJ_other rfl rfl ?_
              intro X f w1 hv hm hL hp K hK
              rw [← HMD2.out] at hm
              have hm2 : M (fun j => j == 19 || X j) (updF f 14 (.pointer (some ⟨w1.heap.size, 0, none⟩))) (w1.alloc (.cells #[.int .i64 0, .bool false] 33)) := by
                rw [← HMD2.out]
                exact ⟨Lib.hid (hm.1.out.trans ((below_new w1 _).mono hm.1.out.size)), hm.2.alloc hrk hm.1.out.size hr2 hL⟩
              have hgo := hJ X f _ 19 _ _ (by omega) hv (fun j hj => by unfold updF; rw [if_neg (by omega)]) (regT_put base slots f 14 (.pointer (some ⟨w1.heap.size, 0, none⟩)) (hs4 14 (by omega) (by omega))) hm2
              clear hm hm2 hv hp
              go_simp
              exact hK.out _ _ hgo
            · refine regJ_other rfl rfl ?_
              intro X f w1 hv hm hL hp K hK
              rw [← HMD2.out] at hm
              have hm2 : M (fun j => j == 20 || X j) (updF f 15 (.pointer (some ⟨w1.heap.size, 0, none⟩))) (w1.alloc (.cells #[.int .i64 0, .bool false] 33)) := by
                rw [← HMD2.out]
                exact ⟨Lib.hid (hm.1.out.trans ((below_new w1 _).mono hm.1.out.size)), hm.2.alloc hrk hm.1.out.size hr3 hL⟩
              have hgo := hJ X f _ 20 _ _ (by omega) hv (fun j hj => by unfold updF; rw [if_neg (by omega)]) (regT_put base slots f 15 (.pointer (some ⟨w1.heap.size, 0, none⟩)) (hs4 15 (by omega) (by omega))) hm2
              clear hm hm2 hv hp
              go_simp
              exact hK.out _ _ hgo
            · refine regJ_other rfl rfl ?_
              intro X f w1 hv hm hL hp K hK
              have e13 : (regT base slots f).getD 13 undef = f 13 := regT_in (hs4 13 (by omega) (by omega)) (by omega)
              have e65 : (regT base slots f).getD 65 undef = .agg #[.int .i64 (prtTI s q).1, .bool (prtTI s q).2] := (regT_in (hs2 65 (by omega) (by omega)) (by omega)).trans ((hv _ (hVm 5 (by omega)) (hp 5 (of_decide_eq_true (by kernel_rfl)))).trans vl5)
              have ha : X 18 = true := hp 18 (of_decide_eq_true (by kernel_rfl))
              rw [← HMD2.out] at hm
              obtain ⟨cc, hf, hcb, hc⟩ := hm.2.b _ hr1 ha
              rw [show X ((18 + 0, 21 + 0, 13 + 0) : Nat × Nat × Nat).2.1 = false from hL, if_neg (by decide)] at hc
              rw [hf] at e13
              have hm2 : M (fun j => j == 21 || X j) f (w1.setRow cc (vv 13)) := by
                rw [← HMD2.out]
                exact ⟨Lib.hid (below_setRow hm.1.out hcb _), hm.2.store hrk hr1 ha hf⟩
              obtain ⟨k1, k2, k3, k4, k5⟩ := store_two (v0 := .int .i64 (prtTI s q).1) (v1 := .bool (prtTI s q).2) hc
              have hgo := hJ X f f 21 _ _ (by omega) hv (fun _ _ => rfl) rfl hm2
              rw [vv13] at hgo
              clear hm hm2 hv hp
              go_simp
              exact hK.out _ _ hgo
            · refine regJ_other rfl rfl ?_
              intro X f w1 hv hm hL hp K hK
              have e14 : (regT base slots f).getD 14 undef = f 14 := regT_in (hs4 14 (by omega) (by omega)) (by omega)
              have e71 : (regT base slots f).getD 71 undef = .agg #[.int .i64 (prtTI a q).1, .bool (prtTI a q).2] := (regT_in (hs2 71 (by omega) (by omega)) (by omega)).trans ((hv _ (hVm 11 (by omega)) (hp 11 (of_decide_eq_true (by kernel_rfl)))).trans vl11)
              have ha : X 19 = true := hp 19 (of_decide_eq_true (by kernel_rfl))
              rw [← HMD2.out] at hm
              obtain ⟨cc, hf, hcb, hc⟩ := hm.2.b _ hr2 ha
              rw [show X ((18 + 1, 21 + 1, 13 + 1) : Nat × Nat × Nat).2.1 = false from hL, if_neg (by decide)] at hc
              rw [hf] at e14
              have hm2 : M (fun j => j == 22 || X j) f (w1.setRow cc (vv 14)) := by
                rw [← HMD2.out]
                exact ⟨Lib.hid (below_setRow hm.1.out hcb _), hm.2.store hrk hr2 ha hf⟩
              obtain ⟨k1, k2, k3, k4, k5⟩ := store_two (v0 := .int .i64 (prtTI a q).1) (v1 := .bool (prtTI a q).2) hc
              have hgo := hJ X f f 22 _ _ (by omega) hv (fun _ _ => rfl) rfl hm2
              rw [vv14] at hgo
              clear hm hm2 hv hp
              go_simp
              exact hK.out _ _ hgo
            · refine regJ_other rfl rfl ?_
              intro X f w1 hv hm hL hp K hK
              have e15 : (regT base slots f).getD 15 undef = f 15 := regT_in (hs4 15 (by omega) (by omega)) (by omega)
              have e77 : (regT base slots f).getD 77 undef = .agg #[.int .i64 (prtTI b q).1, .bool (prtTI b q).2] := (regT_in (hs2 77 (by omega) (by omega)) (by omega)).trans ((hv _ (hVm 17 (by omega)) (hp 17 (of_decide_eq_true (by kernel_rfl)))).trans vl17)
              have ha : X 20 = true := hp 20 (of_decide_eq_true (by kernel_rfl))
              rw [← HMD2.out] at hm
              obtain ⟨cc, hf, hcb, hc⟩ := hm.2.b _ hr3 ha
              rw [show X ((18 + 2, 21 + 2, 13 + 2) : Nat × Nat × Nat).2.1 = false from hL, if_neg (by decide)] at hc
              rw [hf] at e15
              have hm2 : M (fun j => j == 23 || X j) f (w1.setRow cc (vv 15)) := by
                rw [← HMD2.out]
                exact ⟨Lib.hid (below_setRow hm.1.out hcb _), hm.2.store hrk hr3 ha hf⟩
              obtain ⟨k1, k2, k3, k4, k5⟩ := store_two (v0 := .int .i64 (prtTI b q).1) (v1 := .bool (prtTI b q).2) hc
              have hgo := hJ X f f 23 _ _ (by omega) hv (fun _ _ => rfl) rfl hm2
              rw [vv15] at hgo
              clear hm hm2 hv hp
              go_simp
              exact hK.out _ _ hgo
          · rintro X aa w1 ⟨f, rfl, h1, h2⟩ hall
            rw [← HMD2.out] at h2
            obtain ⟨hb, hA⟩ := h2
            obtain ⟨cc1, g1, _, hc1⟩ := hA.b _ hr1 (hall 18 (of_decide_eq_true (by kernel_rfl)))
            obtain ⟨cc2, g2, _, hc2⟩ := hA.b _ hr2 (hall 19 (of_decide_eq_true (by kernel_rfl)))
            obtain ⟨cc3, g3, _, hc3⟩ := hA.b _ hr3 (hall 20 (of_decide_eq_true (by kernel_rfl)))
            rw [if_pos (hall 21 (of_decide_eq_true (by kernel_rfl)))] at hc1
            rw [if_pos (hall 22 (of_decide_eq_true (by kernel_rfl)))] at hc2
            rw [if_pos (hall 23 (of_decide_eq_true (by kernel_rfl)))] at hc3
            rw [vv13] at hc1
            rw [vv14] at hc2
            rw [vv15] at hc3
            have RR := Lib.hid (And.intro hc1 (And.intro hc2 hc3))
            have E2 := Lib.hid (E.out.below hb.out)
            clear hc1 hc2 hc3 hb hA h1 hall hJ hVr hst HMD2 hME hM hrl hr1 hr2 hr3 hrk vv13 vv14 vv15
            rw [← hsl, HBA.out]
            simp only [regT, List.foldl_cons, List.foldl_nil]
            go_wp2_with fail
            go_meet
            exact ⟨cc1, cc2, cc3, rfl, rfl, rfl, RR, E2⟩
        case rest =>
          obtain ⟨c13, c14, c15, rfl, rfl, rfl, RR, E1⟩ := hcut
          obtain ⟨H2, hH2⟩ : ∃ l : List (Nat × Obj), (c13, Obj.cells #[.int .i64 (prtTI s q).1, .bool (prtTI s q).2] 33 (0, 0)) :: (c14, Obj.cells #[.int .i64 (prtTI a q).1, .bool (prtTI a q).2] 33 (0, 0)) :: (c15, Obj.cells #[.int .i64 (prtTI b q).1, .bool (prtTI b q).2] 33 (0, 0)) :: H = l := ⟨_, rfl⟩
          have E2 : Hid (ElE H2 [s, a, b, m, n] (some ⟨bk, ok, none⟩) L w wc) := Lib.hid ⟨by rw [← hH2]; exact ((E1.out.f.cons RR.out.2.2).cons RR.out.2.1).cons RR.out.1, E1.out.t, E1.out.k, E1.out.b⟩
          have HM2 : Hid ((c13, Obj.cells #[.int .i64 (prtTI s q).1, .bool (prtTI s q).2] 33 (0, 0)) ∈ H2 ∧ (c14, Obj.cells #[.int .i64 (prtTI a q).1, .bool (prtTI a q).2] 33 (0, 0)) ∈ H2 ∧ (c15, Obj.cells #[.int .i64 (prtTI b q).1, .bool (prtTI b q).2] 33 (0, 0)) ∈ H2 ∧ (e1, Obj.cells #[.pointer (pa n)] 29 (0, 0)) ∈ H2 ∧ (e0, Obj.cells #[.pointer (pa m)] 29 (0, 0)) ∈ H2) := Lib.hid (by
            rw [← hH2]
            have h1 := HM.out.1
            have h2 := HM.out.2.1
            simp [h1, h2])
          have E0 : Hid (∀ W, ElE H2 [s, a, b, m, n] (some ⟨bk, ok, none⟩) L w W → ElE H [s, a, b, m, n] (some ⟨bk, ok, none⟩) L w W) := Lib.hid (fun W h => ⟨fun p hp => h.f p (by rw [← hH2]; simp [hp]), h.t, h.k, h.b⟩)
          have CK : Hid (∀ W, ElE H2 [s, a, b, m, n] (some ⟨bk, ok, none⟩) L w W → W.cell? ⟨bk, ok + i, none⟩ = some (.string q)) := Lib.hid (fun W h => by
            obtain ⟨b', o', h1, h2⟩ := h.k.get i (.string q) (by simp [strV, HQ.out])
            cases h1
            exact h2)
          clear hH2 RR E1 HCK E
          obtain ⟨⟨mv, mb⟩, hpm⟩ : ∃ p, prtTI m q = p := ⟨_, rfl⟩
          obtain ⟨⟨nv, nb⟩, hpn⟩ : ∃ p, prtTI n q = p := ⟨_, rfl⟩
          have GET : Hid ((∀ W, AtI W m → Calls Try.prog 16 #[.agg #[.pointer (pa m)], .string q] W fun e w' => e = .returned (.tuple #[.int .i64 mv, .bool mb]) ∧ Below W.heap.size W w') ∧ (∀ W, AtI W n → Calls Try.prog 16 #[.agg #[.pointer (pa n)], .string q] W fun e w' => e = .returned (.tuple #[.int .i64 nv, .bool nb]) ∧ Below W.heap.size W w')) := Lib.hid ⟨fun W h => getI h hpm, fun W h => getI h hpn⟩
          obtain ⟨⟨kv, kb⟩, hkp⟩ : ∃ p, keepFI (prtTI s q) (prtTI a q) (prtTI b q) = p := ⟨_, rfl⟩
          have KEEP : Hid (∀ W, Calls Try.prog 17 #[.string q, .agg #[.int .i64 (prtTI s q).1, .bool (prtTI s q).2], .agg #[.int .i64 (prtTI a q).1, .bool (prtTI a q).2], .agg #[.int .i64 (prtTI b q).1, .bool (prtTI b q).2]] W fun e w' => e = .returned (.tuple #[.int .i64 kv, .bool kb]) ∧ Below W.heap.size W w') := Lib.hid (fun W => by
            have h := wk_KeepI q (prtTI s q) (prtTI a q) (prtTI b q) W
            rw [hkp] at h
            exact h)
          obtain ⟨wt, hwt⟩ : ∃ x, staysF (prtTI s q) (prtTI a q) (prtTI b q) = x := ⟨_, rfl⟩
          have STAYS : Hid (∀ W, Calls Try.prog 18 #[.agg #[.int .i64 (prtTI s q).1, .bool (prtTI s q).2], .agg #[.int .i64 (prtTI a q).1, .bool (prtTI a q).2], .agg #[.int .i64 (prtTI b q).1, .bool (prtTI b q).2]] W fun e w' => e = .returned (.bool wt) ∧ Below W.heap.size W w') := Lib.hid (fun W => by
            have h := wk_stays (prtTI s q) (prtTI a q) (prtTI b q) W
            rw [hwt] at h
            exact h)
          have HW : Hid (wantB s a b q = wt ∧ mb = wt ∧ nb = wt ∧ kb = wt ∧ (wt = true → mv = (q.size : Int) ∧ nv = (q.size : Int) ∧ kv = (q.size : Int)) ∧ (wt = false → kv = 0)) := Lib.hid (by
            have es := prtT_lkI (k := q) GD.out.1.2.1
            have ea := prtT_lkI (k := q) GD.out.2.1.2.1
            have eb := prtT_lkI (k := q) GD.out.2.2.2.1
            have em := (prtT_lkI (k := q) O1.out.srt).symm.trans hpm
            have en := (prtT_lkI (k := q) O2.out.srt).symm.trans hpn
            have hm := el_all (f := fun k => (k.size : Int)) GD.out.1.2.2 GD.out.2.1.2.2 GD.out.2.2.2.2 O1.out q
            have hn := el_all (f := fun k => (k.size : Int)) GD.out.1.2.2 GD.out.2.2.2.2 GD.out.2.1.2.2 O2.out q
            rw [em, ← es, ← ea, ← eb] at hm
            rw [en, ← es, ← ea, ← eb] at hn
            have vs := lk_val (f := fun k => (k.size : Int)) GD.out.1.2.2 q
            have va := lk_val (f := fun k => (k.size : Int)) GD.out.2.1.2.2 q
            have vb := lk_val (f := fun k => (k.size : Int)) GD.out.2.2.2.2 q
            rw [← es] at vs
            rw [← ea] at va
            rw [← eb] at vb
            refine ⟨?_, el_row vs va vb hm hn hkp hwt⟩
            unfold wantB
            rw [← es, ← ea, ← eb]
            exact hwt)
          clear hkp hwt
          clear hpm hpn
          obtain ⟨hwant, rfl, hnb, hkb, hw1, hw2⟩ := HW.out
          subst hnb hkb
          have HV := Lib.hid (And.intro hwant (And.intro hw1 hw2))
          clear HW hwant hw1 hw2
          go_wp2_with fail
          have HC : Hid (Chain [wc] wc) := Lib.hid (Chain.one wc)
          refine wp_region_noPanic ?_
          refine wp_region_held_drew (S := fun w' => Below wc.heap.size wc w') (by kernel_rfl) (Below.refl _ _).drew (fun hS => ?_)
          refine wpAnyH_take (i := 0) (oi := ⟨some 79, _, _, _, _, _⟩) (v := ?_) rfl (by kernel_rfl) (by kernel_rfl) (by kernel_rfl) (fun _ _ _ h => h) (Or.inl ⟨by rfl, ?_⟩) hS ?_
          rotate_left 1
          · intro w' hB; have hd := (HC.out.to wc (by simp)).trans (hB.mono (HC.out.to wc (by simp)).size); have EM := E2.out.below hd; have k6 : _ = _ := EM.f.cell (t := 29) HM2.out.2.2.2.2; have kk := CK.out _ EM; clear hd EM; (go_simp <;> with_reducible rfl)
          try simp only [Act.put, List.setIfInBounds_toArray, List.set_cons_zero, List.set_cons_succ]
          refine wpAnyH_take (i := 1) (oi := ⟨some 80, _, _, _, _, _⟩) (v := ?_) rfl (by kernel_rfl) (by kernel_rfl) (by kernel_rfl) (fun _ _ _ h => h) (Or.inl ⟨by rfl, ?_⟩) hS ?_
          rotate_left 1
          · intro w' hB; have hd := (HC.out.to wc (by simp)).trans (hB.mono (HC.out.to wc (by simp)).size); have EM := E2.out.below hd; have k6 : _ = _ := EM.f.cell (t := 29) HM2.out.2.2.2.2; have kk := CK.out _ EM; clear hd EM; (go_simp <;> with_reducible rfl)
          try simp only [Act.put, List.setIfInBounds_toArray, List.set_cons_zero, List.set_cons_succ]
          refine wpAnyH_take (i := 2) (oi := ⟨some 81, _, _, _, _, _⟩) (v := ?_) rfl (by kernel_rfl) (by kernel_rfl) (by kernel_rfl) (fun _ _ _ h => h) (Or.inl ⟨by rfl, ?_⟩) hS ?_
          rotate_left 1
          · intro w' hB; have hd := (HC.out.to wc (by simp)).trans (hB.mono (HC.out.to wc (by simp)).size); have EM := E2.out.below hd; have k6 : _ = _ := EM.f.cell (t := 29) HM2.out.2.2.2.2; have kk := CK.out _ EM; clear hd EM; (go_simp <;> with_reducible rfl)
          try simp only [Act.put, List.setIfInBounds_toArray, List.set_cons_zero, List.set_cons_succ]
          refine wpAnyH_take (i := 3) (oi := ⟨some 82, _, _, _, _, _⟩) (v := ?_) rfl (by kernel_rfl) (by kernel_rfl) (by kernel_rfl) (fun _ _ _ h => h) (Or.inl ⟨by rfl, ?_⟩) hS ?_
          rotate_left 1
          · intro w' hB; have hd := (HC.out.to wc (by simp)).trans (hB.mono (HC.out.to wc (by simp)).size); have EM := E2.out.below hd; have k6 : _ = _ := EM.f.cell (t := 29) HM2.out.2.2.2.2; have kk := CK.out _ EM; clear hd EM; (go_simp <;> with_reducible rfl)
          try simp only [Act.put, List.setIfInBounds_toArray, List.set_cons_zero, List.set_cons_succ]
          refine wpAnyH_take (i := 4) (oi := ⟨some 83, _, _, _, _, _⟩) (v := ?_) rfl (by kernel_rfl) (by kernel_rfl) (by kernel_rfl) (fun _ _ _ h => h) (Or.inl ⟨by rfl, ?_⟩) hS ?_
          rotate_left 1
          · intro w' hB; have hd := (HC.out.to wc (by simp)).trans (hB.mono (HC.out.to wc (by simp)).size); have EM := E2.out.below hd; have k6 : _ = _ := EM.f.cell (t := 29) HM2.out.2.2.2.2; have kk := CK.out _ EM; clear hd EM; (go_simp <;> with_reducible rfl)
          try simp only [Act.put, List.setIfInBounds_toArray, List.set_cons_zero, List.set_cons_succ]
          refine wpAnyH_ready (rs := [5]) (by kernel_rfl) (by simp) (AllReadyH.cons (o := ⟨some 84, _, _, _, _, _⟩) rfl (fun K hK => ?_) AllReadyH.nil)
          go_simp
          refine (GET.out.1 _ ((E2.out.t m (by simp)).chain HC.out hS (by simp))).mono ?_
          rintro e wd ⟨rfl, hb⟩
          refine hK.out _ _ (hS.trans (hb.mono hS.size)) (fun _ => ?_)
          clear hK K
          have hB := hS.trans (hb.mono hS.size)
          refine wpAnyH_now hB ?_
          clear hS
          have hS := Below.refl wd.heap.size wd
          replace HC := Lib.hid (HC.out.push hB)
          clear hB hb
          try simp only [Act.put, List.setIfInBounds_toArray, List.set_cons_zero, List.set_cons_succ]
          refine wpAnyH_take (i := 6) (oi := ⟨some 78, _, _, _, _, _⟩) (v := ?_) rfl (by kernel_rfl) (by kernel_rfl) (by kernel_rfl) (fun _ _ _ h => h) (Or.inl ⟨by rfl, ?_⟩) hS ?_
          rotate_left 1
          · intro w' hB; have hd := (HC.out.to wc (by simp)).trans (hB.mono (HC.out.to wc (by simp)).size); have EM := E2.out.below hd; have k6 : _ = _ := EM.f.cell (t := 29) HM2.out.2.2.2.2; have kk := CK.out _ EM; clear hd EM; (go_simp <;> with_reducible rfl)
          try simp only [Act.put, List.setIfInBounds_toArray, List.set_cons_zero, List.set_cons_succ]
          refine wpAnyH_take (i := 7) (oi := ⟨some 85, _, _, _, _, _⟩) (v := ?_) rfl (by kernel_rfl) (by kernel_rfl) (by kernel_rfl) (fun _ _ _ h => h) (Or.inl ⟨by rfl, ?_⟩) hS ?_
          rotate_left 1
          · intro w' hB; have hd := (HC.out.to wc (by simp)).trans (hB.mono (HC.out.to wc (by simp)).size); have EM := E2.out.below hd; have k6 : _ = _ := EM.f.cell (t := 29) HM2.out.2.2.2.2; have kk := CK.out _ EM; clear hd EM; (go_simp <;> with_reducible rfl)
          try simp only [Act.put, List.setIfInBounds_toArray, List.set_cons_zero, List.set_cons_succ]
          refine wpAnyH_take (i := 8) (oi := ⟨some 86, _, _, _, _, _⟩) (v := ?_) rfl (by kernel_rfl) (by kernel_rfl) (by kernel_rfl) (fun _ _ _ h => h) (Or.inl ⟨by rfl, ?_⟩) hS ?_
          rotate_left 1
          · intro w' hB; have hd := (HC.out.to wc (by simp)).trans (hB.mono (HC.out.to wc (by simp)).size); have EM := E2.out.below hd; have k6 : _ = _ := EM.f.cell (t := 29) HM2.out.2.2.2.2; have kk := CK.out _ EM; clear hd EM; (go_simp <;> with_reducible rfl)
          try simp only [Act.put, List.setIfInBounds_toArray, List.set_cons_zero, List.set_cons_succ]
          refine wpAnyH_take (i := 9) (oi := ⟨some 16, _, _, _, _, _⟩) (v := ?_) rfl (by kernel_rfl) (by kernel_rfl) (by kernel_rfl) (fun _ _ _ h => h) (Or.inl ⟨by rfl, ?_⟩) hS ?_
          rotate_left 1
          · intro w' hB; have hd := (HC.out.to wc (by simp)).trans (hB.mono (HC.out.to wc (by simp)).size); have EM := E2.out.below hd; have k6 : _ = _ := EM.f.cell (t := 29) HM2.out.2.2.2.2; have kk := CK.out _ EM; clear hd EM; (go_simp <;> with_reducible rfl)
          try simp only [Act.put, List.setIfInBounds_toArray, List.set_cons_zero, List.set_cons_succ]
          refine wpAnyH_take (i := 10) (oi := ⟨some 17, _, _, _, _, _⟩) (v := ?_) rfl (by kernel_rfl) (by kernel_rfl) (by kernel_rfl) (fun _ _ _ h => h) (Or.inl ⟨by rfl, ?_⟩) hS ?_
          rotate_left 1
          · intro w' hB; have hd := (HC.out.to wc (by simp)).trans (hB.mono (HC.out.to wc (by simp)).size); have EM := E2.out.below hd; have k6 : _ = _ := EM.f.cell (t := 29) HM2.out.2.2.2.2; have kk := CK.out _ EM; clear hd EM; (go_simp <;> with_reducible rfl)
          try simp only [Act.put, List.setIfInBounds_toArray, List.set_cons_zero, List.set_cons_succ]
          refine wpAnyH_done (by kernel_rfl) (NoPanic.normal ?_) _
          have E3 := Lib.hid (E2.out.below (HC.out.to wc (by simp)))
          clear HC E2
          have E2 := Lib.hid E3.out
          clear E3
          go_wp2_with fail
          have HC : Hid (Chain [wd] wd) := Lib.hid (Chain.one wd)
          refine wp_region_noPanic ?_
          refine wp_region_held_drew (S := fun w' => Below wd.heap.size wd w') (by kernel_rfl) (Below.refl _ _).drew (fun hS => ?_)
          refine wpAnyH_take (i := 0) (oi := ⟨some 88, _, _, _, _, _⟩) (v := ?_) rfl (by kernel_rfl) (by kernel_rfl) (by kernel_rfl) (fun _ _ _ h => h) (Or.inl ⟨by rfl, ?_⟩) hS ?_
          rotate_left 1
          · intro w' hB; have hd := (HC.out.to wd (by simp)).trans (hB.mono (HC.out.to wd (by simp)).size); have EM := E2.out.below hd; have k8 : _ = _ := EM.f.cell (t := 29) HM2.out.2.2.2.1; have kk := CK.out _ EM; clear hd EM; (go_simp <;> with_reducible rfl)
          try simp only [Act.put, List.setIfInBounds_toArray, List.set_cons_zero, List.set_cons_succ]
          refine wpAnyH_take (i := 1) (oi := ⟨some 89, _, _, _, _, _⟩) (v := ?_) rfl (by kernel_rfl) (by kernel_rfl) (by kernel_rfl) (fun _ _ _ h => h) (Or.inl ⟨by rfl, ?_⟩) hS ?_
          rotate_left 1
          · intro w' hB; have hd := (HC.out.to wd (by simp)).trans (hB.mono (HC.out.to wd (by simp)).size); have EM := E2.out.below hd; have k8 : _ = _ := EM.f.cell (t := 29) HM2.out.2.2.2.1; have kk := CK.out _ EM; clear hd EM; (go_simp <;> with_reducible rfl)
          try simp only [Act.put, List.setIfInBounds_toArray, List.set_cons_zero, List.set_cons_succ]
          refine wpAnyH_take (i := 2) (oi := ⟨some 90, _, _, _, _, _⟩) (v := ?_) rfl (by kernel_rfl) (by kernel_rfl) (by kernel_rfl) (fun _ _ _ h => h) (Or.inl ⟨by rfl, ?_⟩) hS ?_
          rotate_left 1
          · intro w' hB; have hd := (HC.out.to wd (by simp)).trans (hB.mono (HC.out.to wd (by simp)).size); have EM := E2.out.below hd; have k8 : _ = _ := EM.f.cell (t := 29) HM2.out.2.2.2.1; have kk := CK.out _ EM; clear hd EM; (go_simp <;> with_reducible rfl)
          try simp only [Act.put, List.setIfInBounds_toArray, List.set_cons_zero, List.set_cons_succ]
          refine wpAnyH_take (i := 3) (oi := ⟨some 91, _, _, _, _, _⟩) (v := ?_) rfl (by kernel_rfl) (by kernel_rfl) (by kernel_rfl) (fun _ _ _ h => h) (Or.inl ⟨by rfl, ?_⟩) hS ?_
          rotate_left 1
          · intro w' hB; have hd := (HC.out.to wd (by simp)).trans (hB.mono (HC.out.to wd (by simp)).size); have EM := E2.out.below hd; have k8 : _ = _ := EM.f.cell (t := 29) HM2.out.2.2.2.1; have kk := CK.out _ EM; clear hd EM; (go_simp <;> with_reducible rfl)
          try simp only [Act.put, List.setIfInBounds_toArray, List.set_cons_zero, List.set_cons_succ]
          refine wpAnyH_take (i := 4) (oi := ⟨some 92, _, _, _, _, _⟩) (v := ?_) rfl (by kernel_rfl) (by kernel_rfl) (by kernel_rfl) (fun _ _ _ h => h) (Or.inl ⟨by rfl, ?_⟩) hS ?_
          rotate_left 1
          · intro w' hB; have hd := (HC.out.to wd (by simp)).trans (hB.mono (HC.out.to wd (by simp)).size); have EM := E2.out.below hd; have k8 : _ = _ := EM.f.cell (t := 29) HM2.out.2.2.2.1; have kk := CK.out _ EM; clear hd EM; (go_simp <;> with_reducible rfl)
          try simp only [Act.put, List.setIfInBounds_toArray, List.set_cons_zero, List.set_cons_succ]
          refine wpAnyH_ready (rs := [5]) (by kernel_rfl) (by simp) (AllReadyH.cons (o := ⟨some 93, _, _, _, _, _⟩) rfl (fun K hK => ?_) AllReadyH.nil)
          go_simp
          refine (GET.out.2 _ ((E2.out.t n (by simp)).chain HC.out hS (by simp))).mono ?_
          rintro e we ⟨rfl, hb⟩
          refine hK.out _ _ (hS.trans (hb.mono hS.size)) (fun _ => ?_)
          clear hK K
          have hB := hS.trans (hb.mono hS.size)
          refine wpAnyH_now hB ?_
          clear hS
          have hS := Below.refl we.heap.size we
          replace HC := Lib.hid (HC.out.push hB)
          clear hB hb
          try simp only [Act.put, List.setIfInBounds_toArray, List.set_cons_zero, List.set_cons_succ]
          refine wpAnyH_take (i := 6) (oi := ⟨some 87, _, _, _, _, _⟩) (v := ?_) rfl (by kernel_rfl) (by kernel_rfl) (by kernel_rfl) (fun _ _ _ h => h) (Or.inl ⟨by rfl, ?_⟩) hS ?_
          rotate_left 1
          · intro w' hB; have hd := (HC.out.to wd (by simp)).trans (hB.mono (HC.out.to wd (by simp)).size); have EM := E2.out.below hd; have k8 : _ = _ := EM.f.cell (t := 29) HM2.out.2.2.2.1; have kk := CK.out _ EM; clear hd EM; (go_simp <;> with_reducible rfl)
          try simp only [Act.put, List.setIfInBounds_toArray, List.set_cons_zero, List.set_cons_succ]
          refine wpAnyH_take (i := 7) (oi := ⟨some 94, _, _, _, _, _⟩) (v := ?_) rfl (by kernel_rfl) (by kernel_rfl) (by kernel_rfl) (fun _ _ _ h => h) (Or.inl ⟨by rfl, ?_⟩) hS ?_
          rotate_left 1
          · intro w' hB; have hd := (HC.out.to wd (by simp)).trans (hB.mono (HC.out.to wd (by simp)).size); have EM := E2.out.below hd; have k8 : _ = _ := EM.f.cell (t := 29) HM2.out.2.2.2.1; have kk := CK.out _ EM; clear hd EM; (go_simp <;> with_reducible rfl)
          try simp only [Act.put, List.setIfInBounds_toArray, List.set_cons_zero, List.set_cons_succ]
          refine wpAnyH_take (i := 8) (oi := ⟨some 95, _, _, _, _, _⟩) (v := ?_) rfl (by kernel_rfl) (by kernel_rfl) (by kernel_rfl) (fun _ _ _ h => h) (Or.inl ⟨by rfl, ?_⟩) hS ?_
          rotate_left 1
          · intro w' hB; have hd := (HC.out.to wd (by simp)).trans (hB.mono (HC.out.to wd (by simp)).size); have EM := E2.out.below hd; have k8 : _ = _ := EM.f.cell (t := 29) HM2.out.2.2.2.1; have kk := CK.out _ EM; clear hd EM; (go_simp <;> with_reducible rfl)
          try simp only [Act.put, List.setIfInBounds_toArray, List.set_cons_zero, List.set_cons_succ]
          refine wpAnyH_take (i := 9) (oi := ⟨some 18, _, _, _, _, _⟩) (v := ?_) rfl (by kernel_rfl) (by kernel_rfl) (by kernel_rfl) (fun _ _ _ h => h) (Or.inl ⟨by rfl, ?_⟩) hS ?_
          rotate_left 1
          · intro w' hB; have hd := (HC.out.to wd (by simp)).trans (hB.mono (HC.out.to wd (by simp)).size); have EM := E2.out.below hd; have k8 : _ = _ := EM.f.cell (t := 29) HM2.out.2.2.2.1; have kk := CK.out _ EM; clear hd EM; (go_simp <;> with_reducible rfl)
          try simp only [Act.put, List.setIfInBounds_toArray, List.set_cons_zero, List.set_cons_succ]
          refine wpAnyH_take (i := 10) (oi := ⟨some 19, _, _, _, _, _⟩) (v := ?_) rfl (by kernel_rfl) (by kernel_rfl) (by kernel_rfl) (fun _ _ _ h => h) (Or.inl ⟨by rfl, ?_⟩) hS ?_
          rotate_left 1
          · intro w' hB; have hd := (HC.out.to wd (by simp)).trans (hB.mono (HC.out.to wd (by simp)).size); have EM := E2.out.below hd; have k8 : _ = _ := EM.f.cell (t := 29) HM2.out.2.2.2.1; have kk := CK.out _ EM; clear hd EM; (go_simp <;> with_reducible rfl)
          try simp only [Act.put, List.setIfInBounds_toArray, List.set_cons_zero, List.set_cons_succ]
          refine wpAnyH_done (by kernel_rfl) (NoPanic.normal ?_) _
          have E3 := Lib.hid (E2.out.below (HC.out.to wd (by simp)))
          clear HC E2
          have E2 := Lib.hid E3.out
          clear E3
          go_wp2_with fail
          have HC : Hid (Chain [we] we) := Lib.hid (Chain.one we)
          refine wp_region_noPanic ?_
          refine wp_region_held_drew (S := fun w' => Below we.heap.size we w') (by kernel_rfl) (Below.refl _ _).drew (fun hS => ?_)
          refine wpAnyH_take (i := 0) (oi := ⟨some 97, _, _, _, _, _⟩) (v := ?_) rfl (by kernel_rfl) (by kernel_rfl) (by kernel_rfl) (fun _ _ _ h => h) (Or.inl ⟨by rfl, ?_⟩) hS ?_
          rotate_left 1
          · intro w' hB; have hd := (HC.out.to we (by simp)).trans (hB.mono (HC.out.to we (by simp)).size); have EM := E2.out.below hd; have kk := CK.out _ EM; have r1 := row2 (EM.f _ HM2.out.1); have r2 := row2 (EM.f _ HM2.out.2.1); have r3 := row2 (EM.f _ HM2.out.2.2.1); clear hd EM; (go_simp <;> with_reducible rfl)
          try simp only [Act.put, List.setIfInBounds_toArray, List.set_cons_zero, List.set_cons_succ]
          refine wpAnyH_take (i := 1) (oi := ⟨some 98, _, _, _, _, _⟩) (v := ?_) rfl (by kernel_rfl) (by kernel_rfl) (by kernel_rfl) (fun _ _ _ h => h) (Or.inl ⟨by rfl, ?_⟩) hS ?_
          rotate_left 1
          · intro w' hB; have hd := (HC.out.to we (by simp)).trans (hB.mono (HC.out.to we (by simp)).size); have EM := E2.out.below hd; have kk := CK.out _ EM; have r1 := row2 (EM.f _ HM2.out.1); have r2 := row2 (EM.f _ HM2.out.2.1); have r3 := row2 (EM.f _ HM2.out.2.2.1); clear hd EM; (go_simp <;> with_reducible rfl)
          try simp only [Act.put, List.setIfInBounds_toArray, List.set_cons_zero, List.set_cons_succ]
          refine wpAnyH_take (i := 2) (oi := ⟨some 99, _, _, _, _, _⟩) (v := ?_) rfl (by kernel_rfl) (by kernel_rfl) (by kernel_rfl) (fun _ _ _ h => h) (Or.inl ⟨by rfl, ?_⟩) hS ?_
          rotate_left 1
          · intro w' hB; have hd := (HC.out.to we (by simp)).trans (hB.mono (HC.out.to we (by simp)).size); have EM := E2.out.below hd; have kk := CK.out _ EM; have r1 := row2 (EM.f _ HM2.out.1); have r2 := row2 (EM.f _ HM2.out.2.1); have r3 := row2 (EM.f _ HM2.out.2.2.1); clear hd EM; (go_simp <;> with_reducible rfl)
          try simp only [Act.put, List.setIfInBounds_toArray, List.set_cons_zero, List.set_cons_succ]
          refine wpAnyH_take (i := 3) (oi := ⟨some 100, _, _, _, _, _⟩) (v := ?_) rfl (by kernel_rfl) (by kernel_rfl) (by kernel_rfl) (fun _ _ _ h => h) (Or.inl ⟨by rfl, ?_⟩) hS ?_
          rotate_left 1
          · intro w' hB; have hd := (HC.out.to we (by simp)).trans (hB.mono (HC.out.to we (by simp)).size); have EM := E2.out.below hd; have kk := CK.out _ EM; have r1 := row2 (EM.f _ HM2.out.1); have r2 := row2 (EM.f _ HM2.out.2.1); have r3 := row2 (EM.f _ HM2.out.2.2.1); clear hd EM; (go_simp <;> with_reducible rfl)
          try simp only [Act.put, List.setIfInBounds_toArray, List.set_cons_zero, List.set_cons_succ]
          refine wpAnyH_take (i := 4) (oi := ⟨some 101, _, _, _, _, _⟩) (v := ?_) rfl (by kernel_rfl) (by kernel_rfl) (by kernel_rfl) (fun _ _ _ h => h) (Or.inl ⟨by rfl, ?_⟩) hS ?_
          rotate_left 1
          · intro w' hB; have hd := (HC.out.to we (by simp)).trans (hB.mono (HC.out.to we (by simp)).size); have EM := E2.out.below hd; have kk := CK.out _ EM; have r1 := row2 (EM.f _ HM2.out.1); have r2 := row2 (EM.f _ HM2.out.2.1); have r3 := row2 (EM.f _ HM2.out.2.2.1); clear hd EM; (go_simp <;> with_reducible rfl)
          try simp only [Act.put, List.setIfInBounds_toArray, List.set_cons_zero, List.set_cons_succ]
          refine wpAnyH_take (i := 5) (oi := ⟨some 102, _, _, _, _, _⟩) (v := ?_) rfl (by kernel_rfl) (by kernel_rfl) (by kernel_rfl) (fun _ _ _ h => h) (Or.inl ⟨by rfl, ?_⟩) hS ?_
          rotate_left 1
          · intro w' hB; have hd := (HC.out.to we (by simp)).trans (hB.mono (HC.out.to we (by simp)).size); have EM := E2.out.below hd; have kk := CK.out _ EM; have r1 := row2 (EM.f _ HM2.out.1); have r2 := row2 (EM.f _ HM2.out.2.1); have r3 := row2 (EM.f _ HM2.out.2.2.1); clear hd EM; (go_simp <;> with_reducible rfl)
          try simp only [Act.put, List.setIfInBounds_toArray, List.set_cons_zero, List.set_cons_succ]
          refine wpAnyH_take (i := 6) (oi := ⟨some 103, _, _, _, _, _⟩) (v := ?_) rfl (by kernel_rfl) (by kernel_rfl) (by kernel_rfl) (fun _ _ _ h => h) (Or.inl ⟨by rfl, ?_⟩) hS ?_
          rotate_left 1
          · intro w' hB; have hd := (HC.out.to we (by simp)).trans (hB.mono (HC.out.to we (by simp)).size); have EM := E2.out.below hd; have kk := CK.out _ EM; have r1 := row2 (EM.f _ HM2.out.1); have r2 := row2 (EM.f _ HM2.out.2.1); have r3 := row2 (EM.f _ HM2.out.2.2.1); clear hd EM; (go_simp <;> with_reducible rfl)
          try simp only [Act.put, List.setIfInBounds_toArray, List.set_cons_zero, List.set_cons_succ]
          refine wpAnyH_ready (rs := [7]) (by kernel_rfl) (by simp) (AllReadyH.cons (o := ⟨some 104, _, _, _, _, _⟩) rfl (fun K hK => ?_) AllReadyH.nil)
          go_simp
          refine (KEEP.out _).mono ?_
          rintro e wf ⟨rfl, hb⟩
          refine hK.out _ _ (hS.trans (hb.mono hS.size)) (fun _ => ?_)
          clear hK K
          have hB := hS.trans (hb.mono hS.size)
          refine wpAnyH_now hB ?_
          clear hS
          have hS := Below.refl wf.heap.size wf
          replace HC := Lib.hid (HC.out.push hB)
          clear hB hb
          try simp only [Act.put, List.setIfInBounds_toArray, List.set_cons_zero, List.set_cons_succ]
          refine wpAnyH_take (i := 8) (oi := ⟨some 96, _, _, _, _, _⟩) (v := ?_) rfl (by kernel_rfl) (by kernel_rfl) (by kernel_rfl) (fun _ _ _ h => h) (Or.inl ⟨by rfl, ?_⟩) hS ?_
          rotate_left 1
          · intro w' hB; have hd := (HC.out.to we (by simp)).trans (hB.mono (HC.out.to we (by simp)).size); have EM := E2.out.below hd; have kk := CK.out _ EM; have r1 := row2 (EM.f _ HM2.out.1); have r2 := row2 (EM.f _ HM2.out.2.1); have r3 := row2 (EM.f _ HM2.out.2.2.1); clear hd EM; (go_simp <;> with_reducible rfl)
          try simp only [Act.put, List.setIfInBounds_toArray, List.set_cons_zero, List.set_cons_succ]
          refine wpAnyH_take (i := 9) (oi := ⟨some 105, _, _, _, _, _⟩) (v := ?_) rfl (by kernel_rfl) (by kernel_rfl) (by kernel_rfl) (fun _ _ _ h => h) (Or.inl ⟨by rfl, ?_⟩) hS ?_
          rotate_left 1
          · intro w' hB; have hd := (HC.out.to we (by simp)).trans (hB.mono (HC.out.to we (by simp)).size); have EM := E2.out.below hd; have kk := CK.out _ EM; have r1 := row2 (EM.f _ HM2.out.1); have r2 := row2 (EM.f _ HM2.out.2.1); have r3 := row2 (EM.f _ HM2.out.2.2.1); clear hd EM; (go_simp <;> with_reducible rfl)
          try simp only [Act.put, List.setIfInBounds_toArray, List.set_cons_zero, List.set_cons_succ]
          refine wpAnyH_take (i := 10) (oi := ⟨some 106, _, _, _, _, _⟩) (v := ?_) rfl (by kernel_rfl) (by kernel_rfl) (by kernel_rfl) (fun _ _ _ h => h) (Or.inl ⟨by rfl, ?_⟩) hS ?_
          rotate_left 1
          · intro w' hB; have hd := (HC.out.to we (by simp)).trans (hB.mono (HC.out.to we (by simp)).size); have EM := E2.out.below hd; have kk := CK.out _ EM; have r1 := row2 (EM.f _ HM2.out.1); have r2 := row2 (EM.f _ HM2.out.2.1); have r3 := row2 (EM.f _ HM2.out.2.2.1); clear hd EM; (go_simp <;> with_reducible rfl)
          try simp only [Act.put, List.setIfInBounds_toArray, List.set_cons_zero, List.set_cons_succ]
          refine wpAnyH_take (i := 11) (oi := ⟨some 20, _, _, _, _, _⟩) (v := ?_) rfl (by kernel_rfl) (by kernel_rfl) (by kernel_rfl) (fun _ _ _ h => h) (Or.inl ⟨by rfl, ?_⟩) hS ?_
          rotate_left 1
          · intro w' hB; have hd := (HC.out.to we (by simp)).trans (hB.mono (HC.out.to we (by simp)).size); have EM := E2.out.below hd; have kk := CK.out _ EM; have r1 := row2 (EM.f _ HM2.out.1); have r2 := row2 (EM.f _ HM2.out.2.1); have r3 := row2 (EM.f _ HM2.out.2.2.1); clear hd EM; (go_simp <;> with_reducible rfl)
          try simp only [Act.put, List.setIfInBounds_toArray, List.set_cons_zero, List.set_cons_succ]
          refine wpAnyH_take (i := 12) (oi := ⟨some 21, _, _, _, _, _⟩) (v := ?_) rfl (by kernel_rfl) (by kernel_rfl) (by kernel_rfl) (fun _ _ _ h => h) (Or.inl ⟨by rfl, ?_⟩) hS ?_
          rotate_left 1
          · intro w' hB; have hd := (HC.out.to we (by simp)).trans (hB.mono (HC.out.to we (by simp)).size); have EM := E2.out.below hd; have kk := CK.out _ EM; have r1 := row2 (EM.f _ HM2.out.1); have r2 := row2 (EM.f _ HM2.out.2.1); have r3 := row2 (EM.f _ HM2.out.2.2.1); clear hd EM; (go_simp <;> with_reducible rfl)
          try simp only [Act.put, List.setIfInBounds_toArray, List.set_cons_zero, List.set_cons_succ]
          refine wpAnyH_done (by kernel_rfl) (NoPanic.normal ?_) _
          have E3 := Lib.hid (E2.out.below (HC.out.to we (by simp)))
          clear HC E2
          have E2 := Lib.hid E3.out
          clear E3
          have r1 := row2 (E2.out.f _ HM2.out.1)
          have r2 := row2 (E2.out.f _ HM2.out.2.1)
          have r3 := row2 (E2.out.f _ HM2.out.2.2.1)
          go_wp2_with fail
          refine (STAYS.out wf).mono ?_
          rintro e wg ⟨rfl, hb⟩
          have E3 := Lib.hid (E2.out.below hb)
          clear r1 r2 r3 hb E2 STAYS KEEP GET
          have E2 := Lib.hid E3.out
          clear E3
          go_upto_region 16 with (fail)
          go_cut [16, 17, 18, 19, 20, 21, 22, 153] (fun s16 s17 s18 s19 s20 s21 s22 s153 wx => s22 = .bool kb ∧ s153 = .bool false ∧ Hid (ElE H2 [s, a, b, m, n] (some ⟨bk, ok, none⟩) L w wx))
          case first =>
            have kk := CK.out _ E2.out
            cases kb with
            | true =>
              obtain ⟨x1, x2, x3⟩ := HV.out.2.1 rfl
              rw [x1, x2, x3]
              go_wp2_with fail
              go_meet
              exact ⟨rfl, rfl, E2⟩
            | false =>
              rw [HV.out.2.2 rfl]
              go_wp2_with fail
              go_meet
              exact ⟨rfl, rfl, E2⟩
          case rest =>
            clear E2
            obtain ⟨rfl, rfl, E2⟩ := hcut
            go_wp2_with fail
            go_loopw [23, 24] (fun u23 u24 wr => ∃ k : Nat, u24 = .int .i64 (k : Int) ∧ u23 = .bool (frB L i k) ∧ k ≤ i ∧ Hid (ElE H2 [s, a, b, m, n] (some ⟨bk, ok, none⟩) L w wr)) (fun _ u24 _ => i - (intOf u24).toNat)
            case atStart => exact ⟨0, rfl, rfl, Nat.zero_le _, E2⟩
            case round =>
              clear E2
              obtain ⟨k, rfl, rfl, hk, E3⟩ := hrel
              by_cases hlt2 : k < i
              · have hki : (k : Int) < (i : Int) := by omega
                have hkN : (k : Int) < (N : Int) := by omega
                have hkl : k < L.length := by rw [HN.out]; omega
                obtain ⟨qk, hqk⟩ : ∃ q, L[k]'hkl = q := ⟨_, rfl⟩
                have hqs : L[k]? = some qk := by rw [List.getElem?_eq_getElem hkl, hqk]
                obtain ⟨b', o', h1, hck⟩ := E3.out.k.get k (.string qk) (by simp [strV, hqs])
                cases h1
                have HCJ := Lib.hid hck
                have HFB := Lib.hid (frB_succ hqs HQ.out)
                clear hqs hqk hck
                obtain ⟨fb, hfb⟩ : ∃ x, frB L i k = x := ⟨_, rfl⟩
                rw [hfb]
                have HFB2 := Lib.hid hfb
                clear hfb
                go_wp2_with fail
                have HC : Hid (Chain [wr] wr) := Lib.hid (Chain.one wr)
                cases fb
                case' false =>
                  refine wp_region_noPanic ?_
                  refine wp_region_held_drew (S := fun w' => Below wr.heap.size wr w') (by kernel_rfl) (Below.refl _ _).drew (fun hS => ?_)
                  refine wpAnyH_take (i := 0) (oi := ⟨some 159, _, _, _, _, _⟩) (v := ?_) rfl (by kernel_rfl) (by kernel_rfl) (by kernel_rfl) (fun _ _ _ h => h) (Or.inl ⟨by rfl, ?_⟩) hS ?_
                  rotate_left 1
                  · intro w' hB; have hd := (HC.out.to wr (by simp)).trans (hB.mono (HC.out.to wr (by simp)).size); have EM := E3.out.below hd; have kk := CK.out _ EM; have kj := (hd.cell (p := ⟨bk, ok + k, none⟩) (block_lt_of_cell HCJ.out)).trans HCJ.out; clear hd EM; (go_simp <;> with_reducible rfl)
                  try simp only [Act.put, List.setIfInBounds_toArray, List.set_cons_zero, List.set_cons_succ]
                  refine wpAnyH_take (i := 1) (oi := ⟨some 160, _, _, _, _, _⟩) (v := ?_) rfl (by kernel_rfl) (by kernel_rfl) (by kernel_rfl) (fun _ _ _ h => h) (Or.inl ⟨by rfl, ?_⟩) hS ?_
                  rotate_left 1
                  · intro w' hB; have hd := (HC.out.to wr (by simp)).trans (hB.mono (HC.out.to wr (by simp)).size); have EM := E3.out.below hd; have kk := CK.out _ EM; have kj := (hd.cell (p := ⟨bk, ok + k, none⟩) (block_lt_of_cell HCJ.out)).trans HCJ.out; clear hd EM; (go_simp <;> with_reducible rfl)
                  try simp only [Act.put, List.setIfInBounds_toArray, List.set_cons_zero, List.set_cons_succ]
                  refine wpAnyH_take (i := 2) (oi := ⟨some 161, _, _, _, _, _⟩) rfl (by kernel_rfl) (by kernel_rfl) (by kernel_rfl) (fun _ _ _ h => h) (Or.inr ⟨by rfl, rfl⟩) hS ?_
                  try simp only [Act.put, List.setIfInBounds_toArray, List.set_cons_zero, List.set_cons_succ]
                  refine wpAnyH_take (i := 3) (oi := ⟨some 162, _, _, _, _, _⟩) rfl (by kernel_rfl) (by kernel_rfl) (by kernel_rfl) (fun _ _ _ h => h) (Or.inr ⟨by rfl, rfl⟩) hS ?_
                  try simp only [Act.put, List.setIfInBounds_toArray, List.set_cons_zero, List.set_cons_succ]
                  refine wpAnyH_take (i := 4) (oi := ⟨some 163, _, _, _, _, _⟩) rfl (by kernel_rfl) (by kernel_rfl) (by kernel_rfl) (fun _ _ _ h => h) (Or.inr ⟨by rfl, rfl⟩) hS ?_
                  try simp only [Act.put, List.setIfInBounds_toArray, List.set_cons_zero, List.set_cons_succ]
                  refine wpAnyH_take (i := 5) (oi := ⟨some 164, _, _, _, _, _⟩) rfl (by kernel_rfl) (by kernel_rfl) (by kernel_rfl) (fun _ _ _ h => h) (Or.inr ⟨by rfl, rfl⟩) hS ?_
                  try simp only [Act.put, List.setIfInBounds_toArray, List.set_cons_zero, List.set_cons_succ]
                  refine wpAnyH_take (i := 6) (oi := ⟨some 165, _, _, _, _, _⟩) rfl (by kernel_rfl) (by kernel_rfl) (by kernel_rfl) (fun _ _ _ h => h) (Or.inr ⟨by rfl, rfl⟩) hS ?_
                  try simp only [Act.put, List.setIfInBounds_toArray, List.set_cons_zero, List.set_cons_succ]
                  refine wpAnyH_take (i := 7) (oi := ⟨some 166, _, _, _, _, _⟩) rfl (by kernel_rfl) (by kernel_rfl) (by kernel_rfl) (fun _ _ _ h => h) (Or.inr ⟨by rfl, rfl⟩) hS ?_
                  try simp only [Act.put, List.setIfInBounds_toArray, List.set_cons_zero, List.set_cons_succ]
                  refine wpAnyH_take (i := 8) (oi := ⟨some 167, _, _, _, _, _⟩) rfl (by kernel_rfl) (by kernel_rfl) (by kernel_rfl) (fun _ _ _ h => h) (Or.inr ⟨by rfl, rfl⟩) hS ?_
                  try simp only [Act.put, List.setIfInBounds_toArray, List.set_cons_zero, List.set_cons_succ]
                  refine wpAnyH_take (i := 9) (oi := ⟨some 168, _, _, _, _, _⟩) rfl (by kernel_rfl) (by kernel_rfl) (by kernel_rfl) (fun _ _ _ h => h) (Or.inr ⟨by rfl, rfl⟩) hS ?_
                  try simp only [Act.put, List.setIfInBounds_toArray, List.set_cons_zero, List.set_cons_succ]
                  refine wpAnyH_take (i := 10) (oi := ⟨some 169, _, _, _, _, _⟩) rfl (by kernel_rfl) (by kernel_rfl) (by kernel_rfl) (fun _ _ _ h => h) (Or.inr ⟨by rfl, rfl⟩) hS ?_
                  try simp only [Act.put, List.setIfInBounds_toArray, List.set_cons_zero, List.set_cons_succ]
                  refine wpAnyH_take (i := 11) (oi := ⟨some 170, _, _, _, _, _⟩) (v := ?_) rfl (by kernel_rfl) (by kernel_rfl) (by kernel_rfl) (fun _ _ _ h => h) (Or.inl ⟨by rfl, ?_⟩) hS ?_
                  rotate_left 1
                  · intro w' hB; have hd := (HC.out.to wr (by simp)).trans (hB.mono (HC.out.to wr (by simp)).size); have EM := E3.out.below hd; have kk := CK.out _ EM; have kj := (hd.cell (p := ⟨bk, ok + k, none⟩) (block_lt_of_cell HCJ.out)).trans HCJ.out; clear hd EM; (go_simp <;> with_reducible rfl)
                  try simp only [Act.put, List.setIfInBounds_toArray, List.set_cons_zero, List.set_cons_succ]
                  refine wpAnyH_take (i := 12) (oi := ⟨some 23, _, _, _, _, _⟩) (v := ?_) rfl (by kernel_rfl) (by kernel_rfl) (by kernel_rfl) (fun _ _ _ h => h) (Or.inl ⟨by rfl, ?_⟩) hS ?_
                  rotate_left 1
                  · intro w' hB; have hd := (HC.out.to wr (by simp)).trans (hB.mono (HC.out.to wr (by simp)).size); have EM := E3.out.below hd; have kk := CK.out _ EM; have kj := (hd.cell (p := ⟨bk, ok + k, none⟩) (block_lt_of_cell HCJ.out)).trans HCJ.out; clear hd EM; (go_simp <;> with_reducible rfl)
                  try simp only [Act.put, List.setIfInBounds_toArray, List.set_cons_zero, List.set_cons_succ]
                  refine wpAnyH_done (by kernel_rfl) (NoPanic.normal ?_) _
                case' true =>
                  refine wp_region_noPanic ?_
                  refine wp_region_held_drew (S := fun w' => Below wr.heap.size wr w') (by kernel_rfl) (Below.refl _ _).drew (fun hS => ?_)
                  refine wpAnyH_take (i := 0) (oi := ⟨some 159, _, _, _, _, _⟩) (v := ?_) rfl (by kernel_rfl) (by kernel_rfl) (by kernel_rfl) (fun _ _ _ h => h) (Or.inl ⟨by rfl, ?_⟩) hS ?_
                  rotate_left 1
                  · intro w' hB; have hd := (HC.out.to wr (by simp)).trans (hB.mono (HC.out.to wr (by simp)).size); have EM := E3.out.below hd; have kk := CK.out _ EM; have kj := (hd.cell (p := ⟨bk, ok + k, none⟩) (block_lt_of_cell HCJ.out)).trans HCJ.out; clear hd EM; (go_simp <;> with_reducible rfl)
                  try simp only [Act.put, List.setIfInBounds_toArray, List.set_cons_zero, List.set_cons_succ]
                  refine wpAnyH_take (i := 1) (oi := ⟨some 160, _, _, _, _, _⟩) (v := ?_) rfl (by kernel_rfl) (by kernel_rfl) (by kernel_rfl) (fun _ _ _ h => h) (Or.inl ⟨by rfl, ?_⟩) hS ?_
                  rotate_left 1
                  · intro w' hB; have hd := (HC.out.to wr (by simp)).trans (hB.mono (HC.out.to wr (by simp)).size); have EM := E3.out.below hd; have kk := CK.out _ EM; have kj := (hd.cell (p := ⟨bk, ok + k, none⟩) (block_lt_of_cell HCJ.out)).trans HCJ.out; clear hd EM; (go_simp <;> with_reducible rfl)
                  try simp only [Act.put, List.setIfInBounds_toArray, List.set_cons_zero, List.set_cons_succ]
                  refine wpAnyH_take (i := 2) (oi := ⟨some 161, _, _, _, _, _⟩) (v := ?_) rfl (by kernel_rfl) (by kernel_rfl) (by kernel_rfl) (fun _ _ _ h => h) (Or.inl ⟨by rfl, ?_⟩) hS ?_
                  rotate_left 1
                  · intro w' hB; have hd := (HC.out.to wr (by simp)).trans (hB.mono (HC.out.to wr (by simp)).size); have EM := E3.out.below hd; have kk := CK.out _ EM; have kj := (hd.cell (p := ⟨bk, ok + k, none⟩) (block_lt_of_cell HCJ.out)).trans HCJ.out; clear hd EM; (go_simp <;> with_reducible rfl)
                  try simp only [Act.put, List.setIfInBounds_toArray, List.set_cons_zero, List.set_cons_succ]
                  refine wpAnyH_take (i := 3) (oi := ⟨some 162, _, _, _, _, _⟩) (v := ?_) rfl (by kernel_rfl) (by kernel_rfl) (by kernel_rfl) (fun _ _ _ h => h) (Or.inl ⟨by rfl, ?_⟩) hS ?_
                  rotate_left 1
                  · intro w' hB; have hd := (HC.out.to wr (by simp)).trans (hB.mono (HC.out.to wr (by simp)).size); have EM := E3.out.below hd; have kk := CK.out _ EM; have kj := (hd.cell (p := ⟨bk, ok + k, none⟩) (block_lt_of_cell HCJ.out)).trans HCJ.out; clear hd EM; (go_simp <;> with_reducible rfl)
                  try simp only [Act.put, List.setIfInBounds_toArray, List.set_cons_zero, List.set_cons_succ]
                  refine wpAnyH_take (i := 4) (oi := ⟨some 163, _, _, _, _, _⟩) (v := ?_) rfl (by kernel_rfl) (by kernel_rfl) (by kernel_rfl) (fun _ _ _ h => h) (Or.inl ⟨by rfl, ?_⟩) hS ?_
                  rotate_left 1
                  · intro w' hB; have hd := (HC.out.to wr (by simp)).trans (hB.mono (HC.out.to wr (by simp)).size); have EM := E3.out.below hd; have kk := CK.out _ EM; have kj := (hd.cell (p := ⟨bk, ok + k, none⟩) (block_lt_of_cell HCJ.out)).trans HCJ.out; clear hd EM; (go_simp <;> with_reducible rfl)
                  try simp only [Act.put, List.setIfInBounds_toArray, List.set_cons_zero, List.set_cons_succ]
                  refine wpAnyH_take (i := 5) (oi := ⟨some 164, _, _, _, _, _⟩) (v := ?_) rfl (by kernel_rfl) (by kernel_rfl) (by kernel_rfl) (fun _ _ _ h => h) (Or.inl ⟨by rfl, ?_⟩) hS ?_
                  rotate_left 1
                  · intro w' hB; have hd := (HC.out.to wr (by simp)).trans (hB.mono (HC.out.to wr (by simp)).size); have EM := E3.out.below hd; have kk := CK.out _ EM; have kj := (hd.cell (p := ⟨bk, ok + k, none⟩) (block_lt_of_cell HCJ.out)).trans HCJ.out; clear hd EM; (go_simp <;> with_reducible rfl)
                  try simp only [Act.put, List.setIfInBounds_toArray, List.set_cons_zero, List.set_cons_succ]
                  refine wpAnyH_take (i := 6) (oi := ⟨some 165, _, _, _, _, _⟩) (v := ?_) rfl (by kernel_rfl) (by kernel_rfl) (by kernel_rfl) (fun _ _ _ h => h) (Or.inl ⟨by rfl, ?_⟩) hS ?_
                  rotate_left 1
                  · intro w' hB; have hd := (HC.out.to wr (by simp)).trans (hB.mono (HC.out.to wr (by simp)).size); have EM := E3.out.below hd; have kk := CK.out _ EM; have kj := (hd.cell (p := ⟨bk, ok + k, none⟩) (block_lt_of_cell HCJ.out)).trans HCJ.out; clear hd EM; (go_simp <;> with_reducible rfl)
                  try simp only [Act.put, List.setIfInBounds_toArray, List.set_cons_zero, List.set_cons_succ]
                  refine wpAnyH_take (i := 7) (oi := ⟨some 166, _, _, _, _, _⟩) (v := ?_) rfl (by kernel_rfl) (by kernel_rfl) (by kernel_rfl) (fun _ _ _ h => h) (Or.inl ⟨by rfl, ?_⟩) hS ?_
                  rotate_left 1
                  · intro w' hB; have hd := (HC.out.to wr (by simp)).trans (hB.mono (HC.out.to wr (by simp)).size); have EM := E3.out.below hd; have kk := CK.out _ EM; have kj := (hd.cell (p := ⟨bk, ok + k, none⟩) (block_lt_of_cell HCJ.out)).trans HCJ.out; clear hd EM; (go_simp <;> with_reducible rfl)
                  try simp only [Act.put, List.setIfInBounds_toArray, List.set_cons_zero, List.set_cons_succ]
                  refine wpAnyH_take (i := 8) (oi := ⟨some 167, _, _, _, _, _⟩) (v := ?_) rfl (by kernel_rfl) (by kernel_rfl) (by kernel_rfl) (fun _ _ _ h => h) (Or.inl ⟨by rfl, ?_⟩) hS ?_
                  rotate_left 1
                  · intro w' hB; have hd := (HC.out.to wr (by simp)).trans (hB.mono (HC.out.to wr (by simp)).size); have EM := E3.out.below hd; have kk := CK.out _ EM; have kj := (hd.cell (p := ⟨bk, ok + k, none⟩) (block_lt_of_cell HCJ.out)).trans HCJ.out; clear hd EM; (go_simp <;> with_reducible rfl)
                  try simp only [Act.put, List.setIfInBounds_toArray, List.set_cons_zero, List.set_cons_succ]
                  refine wpAnyH_take (i := 9) (oi := ⟨some 168, _, _, _, _, _⟩) (v := ?_) rfl (by kernel_rfl) (by kernel_rfl) (by kernel_rfl) (fun _ _ _ h => h) (Or.inl ⟨by rfl, ?_⟩) hS ?_
                  rotate_left 1
                  · intro w' hB; have hd := (HC.out.to wr (by simp)).trans (hB.mono (HC.out.to wr (by simp)).size); have EM := E3.out.below hd; have kk := CK.out _ EM; have kj := (hd.cell (p := ⟨bk, ok + k, none⟩) (block_lt_of_cell HCJ.out)).trans HCJ.out; clear hd EM; (go_simp <;> with_reducible rfl)
                  try simp only [Act.put, List.setIfInBounds_toArray, List.set_cons_zero, List.set_cons_succ]
                  refine wpAnyH_take (i := 10) (oi := ⟨some 169, _, _, _, _, _⟩) (v := ?_) rfl (by kernel_rfl) (by kernel_rfl) (by kernel_rfl) (fun _ _ _ h => h) (Or.inl ⟨by rfl, ?_⟩) hS ?_
                  rotate_left 1
                  · intro w' hB; have hd := (HC.out.to wr (by simp)).trans (hB.mono (HC.out.to wr (by simp)).size); have EM := E3.out.below hd; have kk := CK.out _ EM; have kj := (hd.cell (p := ⟨bk, ok + k, none⟩) (block_lt_of_cell HCJ.out)).trans HCJ.out; clear hd EM; (go_simp <;> with_reducible rfl)
                  try simp only [Act.put, List.setIfInBounds_toArray, List.set_cons_zero, List.set_cons_succ]
                  refine wpAnyH_take (i := 11) (oi := ⟨some 170, _, _, _, _, _⟩) (v := ?_) rfl (by kernel_rfl) (by kernel_rfl) (by kernel_rfl) (fun _ _ _ h => h) (Or.inl ⟨by rfl, ?_⟩) hS ?_
                  rotate_left 1
                  · intro w' hB; have hd := (HC.out.to wr (by simp)).trans (hB.mono (HC.out.to wr (by simp)).size); have EM := E3.out.below hd; have kk := CK.out _ EM; have kj := (hd.cell (p := ⟨bk, ok + k, none⟩) (block_lt_of_cell HCJ.out)).trans HCJ.out; clear hd EM; (go_simp <;> with_reducible rfl)
                  try simp only [Act.put, List.setIfInBounds_toArray, List.set_cons_zero, List.set_cons_succ]
                  refine wpAnyH_take (i := 12) (oi := ⟨some 23, _, _, _, _, _⟩) (v := ?_) rfl (by kernel_rfl) (by kernel_rfl) (by kernel_rfl) (fun _ _ _ h => h) (Or.inl ⟨by rfl, ?_⟩) hS ?_
                  rotate_left 1
                  · intro w' hB; have hd := (HC.out.to wr (by simp)).trans (hB.mono (HC.out.to wr (by simp)).size); have EM := E3.out.below hd; have kk := CK.out _ EM; have kj := (hd.cell (p := ⟨bk, ok + k, none⟩) (block_lt_of_cell HCJ.out)).trans HCJ.out; clear hd EM; (go_simp <;> with_reducible rfl)
                  try simp only [Act.put, List.setIfInBounds_toArray, List.set_cons_zero, List.set_cons_succ]
                  refine wpAnyH_done (by kernel_rfl) (NoPanic.normal ?_) _
                all_goals go_wp2_with fail
                all_goals
                  refine ⟨⟨k + 1, by simp, ?_, by omega, Lib.hid (E3.out.below (Below.refl _ _).drew)⟩, ?_⟩
                  · rw [HFB.out, HFB2.out]
                    first
                    | rfl
                    | (rw [eq_iff]; simp)
                  · have q1 : (intOf (Value.int .i64 ((k : Int) + 1))).toNat = k + 1 := by simp [intOf]
                    have q2 : (intOf (Value.int .i64 (k : Int))).toNat = k := by simp [intOf]
                    rw [q1, q2]; omega
              · have hki : k = i := by omega
                have hnk : ¬ (k : Int) < (i : Int) := by omega
                obtain ⟨fb, hfb⟩ : ∃ x, frB L i k = x := ⟨_, rfl⟩
                rw [hfb]
                have HCS : Hid (cntF s a b L (i + 1) = cn + if (kb && fb) = true then 1 else 0) := Lib.hid (by
                  rw [cntF_succ, HCN.out, List.getD_eq_getElem?_getD, HQ.out]
                  have h1 : firstB L i = fb := by rw [← hfb, hki]; rfl
                  rw [h1, show (some q).getD ⟨#[]⟩ = q from rfl, HV.out.1])
                have E4 := Lib.hid (E0.out _ E3.out)
                clear hfb
                have hcn : cn ≤ 240 := by
                  have := cntF_le s a b L i
                  rw [HCN.out] at this
                  omega
                cases kb <;> cases fb
                all_goals go_wp2_with fail
                all_goals
                  refine ⟨⟨i + 1, by simp, ?_, by omega, E4⟩, ?_⟩
                  · rw [HCS.out]
                    first
                    | rfl
                    | simp
                  · have q1 : (intOf (Value.int .i64 ((i : Int) + 1))).toNat = i + 1 := by simp [intOf]
                    have q2 : (intOf (Value.int .i64 (i : Int))).toNat = i := by simp [intOf]
                    rw [q1, q2]; omega
      · have hnl : ¬ (i : Int) < (N : Int) := by omega
        have HCT : Hid (cntF s a b L i = sz m ∧ sz n = sz m) := Lib.hid (by
          have hk : ∀ k, (lk 0 (items m) k).2 = wantB s a b k ∧ (lk 0 (items n) k).2 = wantB s a b k := fun k => by
            have hm := el_all (f := fun k => (k.size : Int)) GD.out.1.2.2 GD.out.2.1.2.2 GD.out.2.2.2.2 O1.out k
            have hn := el_all (f := fun k => (k.size : Int)) GD.out.1.2.2 GD.out.2.2.2.2 GD.out.2.1.2.2 O2.out k
            have vs := lk_val (f := fun k => (k.size : Int)) GD.out.1.2.2 k
            have va := lk_val (f := fun k => (k.size : Int)) GD.out.2.1.2.2 k
            have vb := lk_val (f := fun k => (k.size : Int)) GD.out.2.2.2.2 k
            have h := el_row vs va vb hm hn rfl rfl
            exact ⟨h.1, h.2.1⟩
          have h1 := cnt_sz (fun k => (hk k).1) O1.out.srt
          have h2 := cnt_sz (fun k => (hk k).2) O2.out.srt
          have hiN : i = N := by omega
          rw [HL.out, HN.out] at h1 h2
          rw [hiN]
          exact ⟨h1, h2.symm.trans h1⟩)
        rw [HCT.out.1]
        have hsn := HCT.out.2
        obtain ⟨zm, hzm⟩ : ∃ z, sz m = z := ⟨_, rfl⟩
        have hmd := HMD.out
        rw [hzm] at hsn hmd
        rw [hzm]
        have HZ := Lib.hid (And.intro hzm hsn)
        have hq0 : (0 : Int) ≤ (q4 : Int) := by omega
        have hq1 : (0 : Int) ≤ (made : Int) := by omega
        have hq2 : (made : Int) ≤ (zm : Int) := by omega
        clear hzm hsn hmd HCT
        go_wp2_with fail
        have HC : Hid (Chain [wr] wr) := Lib.hid (Chain.one wr)
        refine wp_region_noPanic ?_
        refine wp_region_held_drew (S := fun w' => Below wr.heap.size wr w') (by kernel_rfl) (Below.refl _ _).drew (fun hS => ?_)
        refine wpAnyH_take (i := 0) (oi := ⟨some 177, _, _, _, _, _⟩) (v := ?_) rfl (by kernel_rfl) (by kernel_rfl) (by kernel_rfl) (fun _ _ _ h => h) (Or.inl ⟨by rfl, ?_⟩) hS ?_
        rotate_left 1
        · intro w' hB; have hd := (HC.out.to wr (by simp)).trans (hB.mono (HC.out.to wr (by simp)).size); have EM := E.out.below hd; have k6 : _ = _ := EM.f.cell (t := 29) HM.out.2.1; have k8 : _ = _ := EM.f.cell (t := 29) HM.out.1; have q0 := cell_of_row _ _ 0 _ _ _ (EM.f _ HM.out.2.2.1); have q2 := cell_of_row _ _ 2 _ _ _ (EM.f _ HM.out.2.2.1); clear hd EM; have hq0 := hq0; have hq1 := hq1; have hq2 := hq2; (go_simp <;> with_reducible rfl)
        try simp only [Act.put, List.setIfInBounds_toArray, List.set_cons_zero, List.set_cons_succ]
        refine wpAnyH_take (i := 2) (oi := ⟨some 179, _, _, _, _, _⟩) (v := ?_) rfl (by kernel_rfl) (by kernel_rfl) (by kernel_rfl) (fun _ _ _ h => h) (Or.inl ⟨by rfl, ?_⟩) hS ?_
        rotate_left 1
        · intro w' hB; have hd := (HC.out.to wr (by simp)).trans (hB.mono (HC.out.to wr (by simp)).size); have EM := E.out.below hd; have k6 : _ = _ := EM.f.cell (t := 29) HM.out.2.1; have k8 : _ = _ := EM.f.cell (t := 29) HM.out.1; have q0 := cell_of_row _ _ 0 _ _ _ (EM.f _ HM.out.2.2.1); have q2 := cell_of_row _ _ 2 _ _ _ (EM.f _ HM.out.2.2.1); clear hd EM; have hq0 := hq0; have hq1 := hq1; have hq2 := hq2; (go_simp <;> with_reducible rfl)
        try simp only [Act.put, List.setIfInBounds_toArray, List.set_cons_zero, List.set_cons_succ]
        refine wpAnyH_ready (rs := [1]) (by kernel_rfl) (by simp) (AllReadyH.cons (o := ⟨some 178, _, _, _, _, _⟩) rfl (fun K hK => ?_) AllReadyH.nil)
        go_simp
        refine (pm_MLenI m _ ((E.out.t m (by simp)).chain HC.out hS (by simp))).mono ?_
        rintro e w8 ⟨rfl, hb⟩
        refine hK.out _ _ (hS.trans (hb.mono hS.size)) (fun _ => ?_)
        clear hK K
        have hB := hS.trans (hb.mono hS.size)
        refine wpAnyH_now hB ?_
        clear hS
        have hS := Below.refl w8.heap.size w8
        replace HC := Lib.hid (HC.out.push hB)
        rw [HZ.out.1]
        clear hB hb
        try simp only [Act.put, List.setIfInBounds_toArray, List.set_cons_zero, List.set_cons_succ]
        refine wpAnyH_take (i := 3) (oi := ⟨some 180, _, _, _, _, _⟩) (v := ?_) rfl (by kernel_rfl) (by kernel_rfl) (by kernel_rfl) (fun _ _ _ h => h) (Or.inl ⟨by rfl, ?_⟩) hS ?_
        rotate_left 1
        · intro w' hB; have hd := (HC.out.to wr (by simp)).trans (hB.mono (HC.out.to wr (by simp)).size); have EM := E.out.below hd; have k6 : _ = _ := EM.f.cell (t := 29) HM.out.2.1; have k8 : _ = _ := EM.f.cell (t := 29) HM.out.1; have q0 := cell_of_row _ _ 0 _ _ _ (EM.f _ HM.out.2.2.1); have q2 := cell_of_row _ _ 2 _ _ _ (EM.f _ HM.out.2.2.1); clear hd EM; have hq0 := hq0; have hq1 := hq1; have hq2 := hq2; (go_simp <;> with_reducible rfl)
        try simp only [Act.put, List.setIfInBounds_toArray, List.set_cons_zero, List.set_cons_succ]
        refine wpAnyH_take (i := 4) (oi := ⟨some 181, _, _, _, _, _⟩) (v := ?_) rfl (by kernel_rfl) (by kernel_rfl) (by kernel_rfl) (fun _ _ _ h => h) (Or.inl ⟨by rfl, ?_⟩) hS ?_
        rotate_left 1
        · intro w' hB; have hd := (HC.out.to wr (by simp)).trans (hB.mono (HC.out.to wr (by simp)).size); have EM := E.out.below hd; have k6 : _ = _ := EM.f.cell (t := 29) HM.out.2.1; have k8 : _ = _ := EM.f.cell (t := 29) HM.out.1; have q0 := cell_of_row _ _ 0 _ _ _ (EM.f _ HM.out.2.2.1); have q2 := cell_of_row _ _ 2 _ _ _ (EM.f _ HM.out.2.2.1); clear hd EM; have hq0 := hq0; have hq1 := hq1; have hq2 := hq2; (go_simp <;> with_reducible rfl)
        try simp only [Act.put, List.setIfInBounds_toArray, List.set_cons_zero, List.set_cons_succ]
        refine wpAnyH_take (i := 5) (oi := ⟨some 182, _, _, _, _, _⟩) (v := ?_) rfl (by kernel_rfl) (by kernel_rfl) (by kernel_rfl) (fun _ _ _ h => h) (Or.inl ⟨by rfl, ?_⟩) hS ?_
        rotate_left 1
        · intro w' hB; have hd := (HC.out.to wr (by simp)).trans (hB.mono (HC.out.to wr (by simp)).size); have EM := E.out.below hd; have k6 : _ = _ := EM.f.cell (t := 29) HM.out.2.1; have k8 : _ = _ := EM.f.cell (t := 29) HM.out.1; have q0 := cell_of_row _ _ 0 _ _ _ (EM.f _ HM.out.2.2.1); have q2 := cell_of_row _ _ 2 _ _ _ (EM.f _ HM.out.2.2.1); clear hd EM; have hq0 := hq0; have hq1 := hq1; have hq2 := hq2; (go_simp <;> with_reducible rfl)
        try simp only [Act.put, List.setIfInBounds_toArray, List.set_cons_zero, List.set_cons_succ]
        refine wpAnyH_take (i := 7) (oi := ⟨some 184, _, _, _, _, _⟩) (v := ?_) rfl (by kernel_rfl) (by kernel_rfl) (by kernel_rfl) (fun _ _ _ h => h) (Or.inl ⟨by rfl, ?_⟩) hS ?_
        rotate_left 1
        · intro w' hB; have hd := (HC.out.to wr (by simp)).trans (hB.mono (HC.out.to wr (by simp)).size); have EM := E.out.below hd; have k6 : _ = _ := EM.f.cell (t := 29) HM.out.2.1; have k8 : _ = _ := EM.f.cell (t := 29) HM.out.1; have q0 := cell_of_row _ _ 0 _ _ _ (EM.f _ HM.out.2.2.1); have q2 := cell_of_row _ _ 2 _ _ _ (EM.f _ HM.out.2.2.1); clear hd EM; have hq0 := hq0; have hq1 := hq1; have hq2 := hq2; (go_simp <;> with_reducible rfl)
        try simp only [Act.put, List.setIfInBounds_toArray, List.set_cons_zero, List.set_cons_succ]
        refine wpAnyH_ready (rs := [6]) (by kernel_rfl) (by simp) (AllReadyH.cons (o := ⟨some 183, _, _, _, _, _⟩) rfl (fun K hK => ?_) AllReadyH.nil)
        go_simp
        refine (pm_MLenI n _ ((E.out.t n (by simp)).chain HC.out hS (by simp))).mono ?_
        rintro e w9 ⟨rfl, hb⟩
        refine hK.out _ _ (hS.trans (hb.mono hS.size)) (fun _ => ?_)
        clear hK K
        have hB := hS.trans (hb.mono hS.size)
        refine wpAnyH_now hB ?_
        clear hS
        have hS := Below.refl w9.heap.size w9
        replace HC := Lib.hid (HC.out.push hB)
        rw [HZ.out.2]
        clear hB hb
        try simp only [Act.put, List.setIfInBounds_toArray, List.set_cons_zero, List.set_cons_succ]
        refine wpAnyH_take (i := 8) (oi := ⟨some 185, _, _, _, _, _⟩) (v := ?_) rfl (by kernel_rfl) (by kernel_rfl) (by kernel_rfl) (fun _ _ _ h => h) (Or.inl ⟨by rfl, ?_⟩) hS ?_
        rotate_left 1
        · intro w' hB; have hd := (HC.out.to wr (by simp)).trans (hB.mono (HC.out.to wr (by simp)).size); have EM := E.out.below hd; have k6 : _ = _ := EM.f.cell (t := 29) HM.out.2.1; have k8 : _ = _ := EM.f.cell (t := 29) HM.out.1; have q0 := cell_of_row _ _ 0 _ _ _ (EM.f _ HM.out.2.2.1); have q2 := cell_of_row _ _ 2 _ _ _ (EM.f _ HM.out.2.2.1); clear hd EM; have hq0 := hq0; have hq1 := hq1; have hq2 := hq2; (go_simp <;> with_reducible rfl)
        try simp only [Act.put, List.setIfInBounds_toArray, List.set_cons_zero, List.set_cons_succ]
        refine wpAnyH_take (i := 9) (oi := ⟨some 186, _, _, _, _, _⟩) (v := ?_) rfl (by kernel_rfl) (by kernel_rfl) (by kernel_rfl) (fun _ _ _ h => h) (Or.inl ⟨by rfl, ?_⟩) hS ?_
        rotate_left 1
        · intro w' hB; have hd := (HC.out.to wr (by simp)).trans (hB.mono (HC.out.to wr (by simp)).size); have EM := E.out.below hd; have k6 : _ = _ := EM.f.cell (t := 29) HM.out.2.1; have k8 : _ = _ := EM.f.cell (t := 29) HM.out.1; have q0 := cell_of_row _ _ 0 _ _ _ (EM.f _ HM.out.2.2.1); have q2 := cell_of_row _ _ 2 _ _ _ (EM.f _ HM.out.2.2.1); clear hd EM; have hq0 := hq0; have hq1 := hq1; have hq2 := hq2; (go_simp <;> with_reducible rfl)
        try simp only [Act.put, List.setIfInBounds_toArray, List.set_cons_zero, List.set_cons_succ]
        refine wpAnyH_take (i := 10) (oi := ⟨some 187, _, _, _, _, _⟩) (v := ?_) rfl (by kernel_rfl) (by kernel_rfl) (by kernel_rfl) (fun _ _ _ h => h) (Or.inl ⟨by rfl, ?_⟩) hS ?_
        rotate_left 1
        · intro w' hB; have hd := (HC.out.to wr (by simp)).trans (hB.mono (HC.out.to wr (by simp)).size); have EM := E.out.below hd; have k6 : _ = _ := EM.f.cell (t := 29) HM.out.2.1; have k8 : _ = _ := EM.f.cell (t := 29) HM.out.1; have q0 := cell_of_row _ _ 0 _ _ _ (EM.f _ HM.out.2.2.1); have q2 := cell_of_row _ _ 2 _ _ _ (EM.f _ HM.out.2.2.1); clear hd EM; have hq0 := hq0; have hq1 := hq1; have hq2 := hq2; (go_simp <;> with_reducible rfl)
        try simp only [Act.put, List.setIfInBounds_toArray, List.set_cons_zero, List.set_cons_succ]
        refine wpAnyH_take (i := 11) (oi := ⟨some 188, _, _, _, _, _⟩) (v := ?_) rfl (by kernel_rfl) (by kernel_rfl) (by kernel_rfl) (fun _ _ _ h => h) (Or.inl ⟨by rfl, ?_⟩) hS ?_
        rotate_left 1
        · intro w' hB; have hd := (HC.out.to wr (by simp)).trans (hB.mono (HC.out.to wr (by simp)).size); have EM := E.out.below hd; have k6 : _ = _ := EM.f.cell (t := 29) HM.out.2.1; have k8 : _ = _ := EM.f.cell (t := 29) HM.out.1; have q0 := cell_of_row _ _ 0 _ _ _ (EM.f _ HM.out.2.2.1); have q2 := cell_of_row _ _ 2 _ _ _ (EM.f _ HM.out.2.2.1); clear hd EM; have hq0 := hq0; have hq1 := hq1; have hq2 := hq2; (go_simp <;> with_reducible rfl)
        try simp only [Act.put, List.setIfInBounds_toArray, List.set_cons_zero, List.set_cons_succ]
        refine wpAnyH_take (i := 12) (oi := ⟨some 189, _, _, _, _, _⟩) (v := ?_) rfl (by kernel_rfl) (by kernel_rfl) (by kernel_rfl) (fun _ _ _ h => h) (Or.inl ⟨by rfl, ?_⟩) hS ?_
        rotate_left 1
        · intro w' hB; have hd := (HC.out.to wr (by simp)).trans (hB.mono (HC.out.to wr (by simp)).size); have EM := E.out.below hd; have k6 : _ = _ := EM.f.cell (t := 29) HM.out.2.1; have k8 : _ = _ := EM.f.cell (t := 29) HM.out.1; have q0 := cell_of_row _ _ 0 _ _ _ (EM.f _ HM.out.2.2.1); have q2 := cell_of_row _ _ 2 _ _ _ (EM.f _ HM.out.2.2.1); clear hd EM; have hq0 := hq0; have hq1 := hq1; have hq2 := hq2; (go_simp <;> with_reducible rfl)
        try simp only [Act.put, List.setIfInBounds_toArray, List.set_cons_zero, List.set_cons_succ]
        refine wpAnyH_take (i := 13) (oi := ⟨some 190, _, _, _, _, _⟩) (v := ?_) rfl (by kernel_rfl) (by kernel_rfl) (by kernel_rfl) (fun _ _ _ h => h) (Or.inl ⟨by rfl, ?_⟩) hS ?_
        rotate_left 1
        · intro w' hB; have hd := (HC.out.to wr (by simp)).trans (hB.mono (HC.out.to wr (by simp)).size); have EM := E.out.below hd; have k6 : _ = _ := EM.f.cell (t := 29) HM.out.2.1; have k8 : _ = _ := EM.f.cell (t := 29) HM.out.1; have q0 := cell_of_row _ _ 0 _ _ _ (EM.f _ HM.out.2.2.1); have q2 := cell_of_row _ _ 2 _ _ _ (EM.f _ HM.out.2.2.1); clear hd EM; have hq0 := hq0; have hq1 := hq1; have hq2 := hq2; (go_simp <;> with_reducible rfl)
        try simp only [Act.put, List.setIfInBounds_toArray, List.set_cons_zero, List.set_cons_succ]
        refine wpAnyH_take (i := 14) (oi := ⟨some 191, _, _, _, _, _⟩) (v := ?_) rfl (by kernel_rfl) (by kernel_rfl) (by kernel_rfl) (fun _ _ _ h => h) (Or.inl ⟨by rfl, ?_⟩) hS ?_
        rotate_left 1
        · intro w' hB; have hd := (HC.out.to wr (by simp)).trans (hB.mono (HC.out.to wr (by simp)).size); have EM := E.out.below hd; have k6 : _ = _ := EM.f.cell (t := 29) HM.out.2.1; have k8 : _ = _ := EM.f.cell (t := 29) HM.out.1; have q0 := cell_of_row _ _ 0 _ _ _ (EM.f _ HM.out.2.2.1); have q2 := cell_of_row _ _ 2 _ _ _ (EM.f _ HM.out.2.2.1); clear hd EM; have hq0 := hq0; have hq1 := hq1; have hq2 := hq2; (go_simp <;> with_reducible rfl)
        try simp only [Act.put, List.setIfInBounds_toArray, List.set_cons_zero, List.set_cons_succ]
        refine wpAnyH_take (i := 15) (oi := ⟨some 192, _, _, _, _, _⟩) (v := ?_) rfl (by kernel_rfl) (by kernel_rfl) (by kernel_rfl) (fun _ _ _ h => h) (Or.inl ⟨by rfl, ?_⟩) hS ?_
        rotate_left 1
        · intro w' hB; have hd := (HC.out.to wr (by simp)).trans (hB.mono (HC.out.to wr (by simp)).size); have EM := E.out.below hd; have k6 : _ = _ := EM.f.cell (t := 29) HM.out.2.1; have k8 : _ = _ := EM.f.cell (t := 29) HM.out.1; have q0 := cell_of_row _ _ 0 _ _ _ (EM.f _ HM.out.2.2.1); have q2 := cell_of_row _ _ 2 _ _ _ (EM.f _ HM.out.2.2.1); clear hd EM; have hq0 := hq0; have hq1 := hq1; have hq2 := hq2; (go_simp <;> with_reducible rfl)
        try simp only [Act.put, List.setIfInBounds_toArray, List.set_cons_zero, List.set_cons_succ]
        refine wpAnyH_take (i := 16) (oi := ⟨some 193, _, _, _, _, _⟩) (v := ?_) rfl (by kernel_rfl) (by kernel_rfl) (by kernel_rfl) (fun _ _ _ h => h) (Or.inl ⟨by rfl, ?_⟩) hS ?_
        rotate_left 1
        · intro w' hB; have hd := (HC.out.to wr (by simp)).trans (hB.mono (HC.out.to wr (by simp)).size); have EM := E.out.below hd; have k6 : _ = _ := EM.f.cell (t := 29) HM.out.2.1; have k8 : _ = _ := EM.f.cell (t := 29) HM.out.1; have q0 := cell_of_row _ _ 0 _ _ _ (EM.f _ HM.out.2.2.1); have q2 := cell_of_row _ _ 2 _ _ _ (EM.f _ HM.out.2.2.1); clear hd EM; have hq0 := hq0; have hq1 := hq1; have hq2 := hq2; (go_simp <;> with_reducible rfl)
        try simp only [Act.put, List.setIfInBounds_toArray, List.set_cons_zero, List.set_cons_succ]
        refine wpAnyH_take (i := 17) (oi := ⟨some 194, _, _, _, _, _⟩) (v := ?_) rfl (by kernel_rfl) (by kernel_rfl) (by kernel_rfl) (fun _ _ _ h => h) (Or.inl ⟨by rfl, ?_⟩) hS ?_
        rotate_left 1
        · intro w' hB; have hd := (HC.out.to wr (by simp)).trans (hB.mono (HC.out.to wr (by simp)).size); have EM := E.out.below hd; have k6 : _ = _ := EM.f.cell (t := 29) HM.out.2.1; have k8 : _ = _ := EM.f.cell (t := 29) HM.out.1; have q0 := cell_of_row _ _ 0 _ _ _ (EM.f _ HM.out.2.2.1); have q2 := cell_of_row _ _ 2 _ _ _ (EM.f _ HM.out.2.2.1); clear hd EM; have hq0 := hq0; have hq1 := hq1; have hq2 := hq2; (go_simp <;> with_reducible rfl)
        try simp only [Act.put, List.setIfInBounds_toArray, List.set_cons_zero, List.set_cons_succ]
        refine wpAnyH_take (i := 18) (oi := ⟨some 195, _, _, _, _, _⟩) (v := ?_) rfl (by kernel_rfl) (by kernel_rfl) (by kernel_rfl) (fun _ _ _ h => h) (Or.inl ⟨by rfl, ?_⟩) hS ?_
        rotate_left 1
        · intro w' hB; have hd := (HC.out.to wr (by simp)).trans (hB.mono (HC.out.to wr (by simp)).size); have EM := E.out.below hd; have k6 : _ = _ := EM.f.cell (t := 29) HM.out.2.1; have k8 : _ = _ := EM.f.cell (t := 29) HM.out.1; have q0 := cell_of_row _ _ 0 _ _ _ (EM.f _ HM.out.2.2.1); have q2 := cell_of_row _ _ 2 _ _ _ (EM.f _ HM.out.2.2.1); clear hd EM; have hq0 := hq0; have hq1 := hq1; have hq2 := hq2; (go_simp <;> with_reducible rfl)
        try simp only [Act.put, List.setIfInBounds_toArray, List.set_cons_zero, List.set_cons_succ]
        refine wpAnyH_take (i := 19) (oi := ⟨some 196, _, _, _, _, _⟩) (v := ?_) rfl (by kernel_rfl) (by kernel_rfl) (by kernel_rfl) (fun _ _ _ h => h) (Or.inl ⟨by rfl, ?_⟩) hS ?_
        rotate_left 1
        · intro w' hB; have hd := (HC.out.to wr (by simp)).trans (hB.mono (HC.out.to wr (by simp)).size); have EM := E.out.below hd; have k6 : _ = _ := EM.f.cell (t := 29) HM.out.2.1; have k8 : _ = _ := EM.f.cell (t := 29) HM.out.1; have q0 := cell_of_row _ _ 0 _ _ _ (EM.f _ HM.out.2.2.1); have q2 := cell_of_row _ _ 2 _ _ _ (EM.f _ HM.out.2.2.1); clear hd EM; have hq0 := hq0; have hq1 := hq1; have hq2 := hq2; (go_simp <;> with_reducible rfl)
        try simp only [Act.put, List.setIfInBounds_toArray, List.set_cons_zero, List.set_cons_succ]
        refine wpAnyH_take (i := 20) (oi := ⟨some 197, _, _, _, _, _⟩) (v := ?_) rfl (by kernel_rfl) (by kernel_rfl) (by kernel_rfl) (fun _ _ _ h => h) (Or.inl ⟨by rfl, ?_⟩) hS ?_
        rotate_left 1
        · intro w' hB; have hd := (HC.out.to wr (by simp)).trans (hB.mono (HC.out.to wr (by simp)).size); have EM := E.out.below hd; have k6 : _ = _ := EM.f.cell (t := 29) HM.out.2.1; have k8 : _ = _ := EM.f.cell (t := 29) HM.out.1; have q0 := cell_of_row _ _ 0 _ _ _ (EM.f _ HM.out.2.2.1); have q2 := cell_of_row _ _ 2 _ _ _ (EM.f _ HM.out.2.2.1); clear hd EM; have hq0 := hq0; have hq1 := hq1; have hq2 := hq2; (go_simp <;> with_reducible rfl)
        try simp only [Act.put, List.setIfInBounds_toArray, List.set_cons_zero, List.set_cons_succ]
        refine wpAnyH_take (i := 21) (oi := ⟨some 198, _, _, _, _, _⟩) (v := ?_) rfl (by kernel_rfl) (by kernel_rfl) (by kernel_rfl) (fun _ _ _ h => h) (Or.inl ⟨by rfl, ?_⟩) hS ?_
        rotate_left 1
        · intro w' hB; have hd := (HC.out.to wr (by simp)).trans (hB.mono (HC.out.to wr (by simp)).size); have EM := E.out.below hd; have k6 : _ = _ := EM.f.cell (t := 29) HM.out.2.1; have k8 : _ = _ := EM.f.cell (t := 29) HM.out.1; have q0 := cell_of_row _ _ 0 _ _ _ (EM.f _ HM.out.2.2.1); have q2 := cell_of_row _ _ 2 _ _ _ (EM.f _ HM.out.2.2.1); clear hd EM; have hq0 := hq0; have hq1 := hq1; have hq2 := hq2; (go_simp <;> with_reducible rfl)
        try simp only [Act.put, List.setIfInBounds_toArray, List.set_cons_zero, List.set_cons_succ]
        refine wpAnyH_take (i := 22) (oi := ⟨some 199, _, _, _, _, _⟩) (v := ?_) rfl (by kernel_rfl) (by kernel_rfl) (by kernel_rfl) (fun _ _ _ h => h) (Or.inl ⟨by rfl, ?_⟩) hS ?_
        rotate_left 1
        · intro w' hB; have hd := (HC.out.to wr (by simp)).trans (hB.mono (HC.out.to wr (by simp)).size); have EM := E.out.below hd; have k6 : _ = _ := EM.f.cell (t := 29) HM.out.2.1; have k8 : _ = _ := EM.f.cell (t := 29) HM.out.1; have q0 := cell_of_row _ _ 0 _ _ _ (EM.f _ HM.out.2.2.1); have q2 := cell_of_row _ _ 2 _ _ _ (EM.f _ HM.out.2.2.1); clear hd EM; have hq0 := hq0; have hq1 := hq1; have hq2 := hq2; (go_simp <;> with_reducible rfl)
        try simp only [Act.put, List.setIfInBounds_toArray, List.set_cons_zero, List.set_cons_succ]
        refine wpAnyH_take (i := 23) (oi := ⟨some 200, _, _, _, _, _⟩) (v := ?_) rfl (by kernel_rfl) (by kernel_rfl) (by kernel_rfl) (fun _ _ _ h => h) (Or.inl ⟨by rfl, ?_⟩) hS ?_
        rotate_left 1
        · intro w' hB; have hd := (HC.out.to wr (by simp)).trans (hB.mono (HC.out.to wr (by simp)).size); have EM := E.out.below hd; have k6 : _ = _ := EM.f.cell (t := 29) HM.out.2.1; have k8 : _ = _ := EM.f.cell (t := 29) HM.out.1; have q0 := cell_of_row _ _ 0 _ _ _ (EM.f _ HM.out.2.2.1); have q2 := cell_of_row _ _ 2 _ _ _ (EM.f _ HM.out.2.2.1); clear hd EM; have hq0 := hq0; have hq1 := hq1; have hq2 := hq2; (go_simp <;> with_reducible rfl)
        try simp only [Act.put, List.setIfInBounds_toArray, List.set_cons_zero, List.set_cons_succ]
        refine wpAnyH_ready (rs := [24]) (by kernel_rfl) (by simp) (AllReadyH.cons (o := ⟨some 201, _, _, _, _, _⟩) rfl (fun K hK => ?_) AllReadyH.nil)
        go_simp
        refine (pm_MLenI m _ ((E.out.t m (by simp)).chain HC.out hS (by simp))).mono ?_
        rintro e wa ⟨rfl, hb⟩
        refine hK.out _ _ (hS.trans (hb.mono hS.size)) (fun _ => ?_)
        clear hK K
        have hB := hS.trans (hb.mono hS.size)
        refine wpAnyH_now hB ?_
        clear hS
        have hS := Below.refl wa.heap.size wa
        replace HC := Lib.hid (HC.out.push hB)
        rw [HZ.out.1]
        clear hB hb
        try simp only [Act.put, List.setIfInBounds_toArray, List.set_cons_zero, List.set_cons_succ]
        refine wpAnyH_take (i := 25) (oi := ⟨some 202, _, _, _, _, _⟩) (v := ?_) rfl (by kernel_rfl) (by kernel_rfl) (by kernel_rfl) (fun _ _ _ h => h) (Or.inl ⟨by rfl, ?_⟩) hS ?_
        rotate_left 1
        · intro w' hB; have hd := (HC.out.to wr (by simp)).trans (hB.mono (HC.out.to wr (by simp)).size); have EM := E.out.below hd; have k6 : _ = _ := EM.f.cell (t := 29) HM.out.2.1; have k8 : _ = _ := EM.f.cell (t := 29) HM.out.1; have q0 := cell_of_row _ _ 0 _ _ _ (EM.f _ HM.out.2.2.1); have q2 := cell_of_row _ _ 2 _ _ _ (EM.f _ HM.out.2.2.1); clear hd EM; have hq0 := hq0; have hq1 := hq1; have hq2 := hq2; (go_simp <;> with_reducible rfl)
        try simp only [Act.put, List.setIfInBounds_toArray, List.set_cons_zero, List.set_cons_succ]
        refine wpAnyH_take (i := 26) (oi := ⟨some 203, _, _, _, _, _⟩) (v := ?_) rfl (by kernel_rfl) (by kernel_rfl) (by kernel_rfl) (fun _ _ _ h => h) (Or.inl ⟨by rfl, ?_⟩) hS ?_
        rotate_left 1
        · intro w' hB; have hd := (HC.out.to wr (by simp)).trans (hB.mono (HC.out.to wr (by simp)).size); have EM := E.out.below hd; have k6 : _ = _ := EM.f.cell (t := 29) HM.out.2.1; have k8 : _ = _ := EM.f.cell (t := 29) HM.out.1; have q0 := cell_of_row _ _ 0 _ _ _ (EM.f _ HM.out.2.2.1); have q2 := cell_of_row _ _ 2 _ _ _ (EM.f _ HM.out.2.2.1); clear hd EM; have hq0 := hq0; have hq1 := hq1; have hq2 := hq2; (go_simp <;> with_reducible rfl)
        try simp only [Act.put, List.setIfInBounds_toArray, List.set_cons_zero, List.set_cons_succ]
        refine wpAnyH_take (i := 27) (oi := ⟨some 204, _, _, _, _, _⟩) (v := ?_) rfl (by kernel_rfl) (by kernel_rfl) (by kernel_rfl) (fun _ _ _ h => h) (Or.inl ⟨by rfl, ?_⟩) hS ?_
        rotate_left 1
        · intro w' hB; have hd := (HC.out.to wr (by simp)).trans (hB.mono (HC.out.to wr (by simp)).size); have EM := E.out.below hd; have k6 : _ = _ := EM.f.cell (t := 29) HM.out.2.1; have k8 : _ = _ := EM.f.cell (t := 29) HM.out.1; have q0 := cell_of_row _ _ 0 _ _ _ (EM.f _ HM.out.2.2.1); have q2 := cell_of_row _ _ 2 _ _ _ (EM.f _ HM.out.2.2.1); clear hd EM; have hq0 := hq0; have hq1 := hq1; have hq2 := hq2; (go_simp <;> with_reducible rfl)
        try simp only [Act.put, List.setIfInBounds_toArray, List.set_cons_zero, List.set_cons_succ]
        refine wpAnyH_ready (rs := [28]) (by kernel_rfl) (by simp) (AllReadyH.cons (o := ⟨some 205, _, _, _, _, _⟩) rfl (fun K hK => ?_) AllReadyH.nil)
        go_simp
        refine (wl_known _).mono ?_
        rintro e wb ⟨rfl, hb⟩
        refine hK.out _ _ (hS.trans (hb.mono hS.size)) (fun _ => ?_)
        clear hK K
        have hB := hS.trans (hb.mono hS.size)
        refine wpAnyH_now hB ?_
        clear hS
        have hS := Below.refl wb.heap.size wb
        replace HC := Lib.hid (HC.out.push hB)
        clear hB hb
        try simp only [Act.put, List.setIfInBounds_toArray, List.set_cons_zero, List.set_cons_succ]
        refine wpAnyH_take (i := 29) (oi := ⟨some 206, _, _, _, _, _⟩) (v := ?_) rfl (by kernel_rfl) (by kernel_rfl) (by kernel_rfl) (fun _ _ _ h => h) (Or.inl ⟨by rfl, ?_⟩) hS ?_
        rotate_left 1
        · intro w' hB; have hd := (HC.out.to wr (by simp)).trans (hB.mono (HC.out.to wr (by simp)).size); have EM := E.out.below hd; have k6 : _ = _ := EM.f.cell (t := 29) HM.out.2.1; have k8 : _ = _ := EM.f.cell (t := 29) HM.out.1; have q0 := cell_of_row _ _ 0 _ _ _ (EM.f _ HM.out.2.2.1); have q2 := cell_of_row _ _ 2 _ _ _ (EM.f _ HM.out.2.2.1); clear hd EM; have hq0 := hq0; have hq1 := hq1; have hq2 := hq2; (go_simp <;> with_reducible rfl)
        try simp only [Act.put, List.setIfInBounds_toArray, List.set_cons_zero, List.set_cons_succ]
        refine wpAnyH_take (i := 30) (oi := ⟨some 2, _, _, _, _, _⟩) (v := ?_) rfl (by kernel_rfl) (by kernel_rfl) (by kernel_rfl) (fun _ _ _ h => h) (Or.inl ⟨by rfl, ?_⟩) hS ?_
        rotate_left 1
        · intro w' hB; have hd := (HC.out.to wr (by simp)).trans (hB.mono (HC.out.to wr (by simp)).size); have EM := E.out.below hd; have k6 : _ = _ := EM.f.cell (t := 29) HM.out.2.1; have k8 : _ = _ := EM.f.cell (t := 29) HM.out.1; have q0 := cell_of_row _ _ 0 _ _ _ (EM.f _ HM.out.2.2.1); have q2 := cell_of_row _ _ 2 _ _ _ (EM.f _ HM.out.2.2.1); clear hd EM; have hq0 := hq0; have hq1 := hq1; have hq2 := hq2; (go_simp <;> with_reducible rfl)
        try simp only [Act.put, List.setIfInBounds_toArray, List.set_cons_zero, List.set_cons_succ]
        refine wpAnyH_done (by kernel_rfl) (NoPanic.normal ?_) _
        go_wp2_with fail
        go_ret
        exact ⟨rfl, E.out.b.trans ((HC.out.to wr (by simp)).mono E.out.b.size)⟩
end Go.Proofs.Ytdodkhhlbjamhaa

