/- Words, contracts and walks that the proof stands on (QuP). -/
import Derived.Test.YtnpiepimajippaaRF1
import Derived.Test.YtnpiepimajippaaRF18
import Derived.Test.YtnpiepimajippaaRF5
namespace Go.Proofs.Ytnpiepimajippaa
open Go.RowKit St Pm
theorem pops_agree {la : List Ev} {y : Ev} {a c : Tr ByteArray} (ha : Reg la a) (hc : Reg (la ++ [y]) c) (k : ByteArray) (h1 : (lk (⟨#[]⟩ : ByteArray) (items a) k).2 = true) : (lk (⟨#[]⟩ : ByteArray) (items a) k).1 = (lk (⟨#[]⟩ : ByteArray) (items c) k).1 := by
  obtain ⟨p, hp, rfl⟩ := lk_has.1 h1
  have e1 := lk_mem (z := (⟨#[]⟩ : ByteArray)) ha.srt (show (p.1, p.2) ∈ items a from hp)
  have e2 := lk_mem (z := (⟨#[]⟩ : ByteArray)) hc.srt (show (p.1, p.2) ∈ items c from by
    rw [hc.it, List.map_append]
    rw [ha.it] at hp
    exact List.mem_append_left _ hp)
  rw [e1, e2]
theorem thrV_pops {l la : List Ev} {y : Ev} {m a c : Tr ByteArray} (hm : Reg l m) (hs : ∃ p, l = p ++ la) (ha : Reg la a) (hc : Reg (la ++ [y]) c) (hy : ∀ z ∈ l, z.1 ≠ y.1) : thrV l la (la ++ [y]) = la ++ [y] := by
  have hE := els_mem (l.map toE) (la.map toE) ((la ++ [y]).map toE) (fun x hx => (List.mem_append.1 hx).elim (ha.okk x) (hc.okk x)) _ (la.map toE) ((la ++ [y]).map toE) (Nat.le_refl _) ha.srtE hc.srtE (left_start _ _)
  have hk : ∀ x ∈ elsF (l.map toE) (la.map toE) ((la ++ [y]).map toE) (la.map toE) ((la ++ [y]).map toE), okE x = true := fun x hx => by
    rcases (hE.2 x).1 hx with h | h
    · exact ha.oke x h.1
    · exact hc.oke x h.1
  have hmem : ∀ x, x ∈ elsF (l.map toE) (la.map toE) ((la ++ [y]).map toE) (la.map toE) ((la ++ [y]).map toE) ↔ x ∈ (la ++ [y]).map toE := fun x => by
    rw [hE.2 x]
    constructor
    · rintro (⟨h, _⟩ | ⟨h, _⟩)
      · rw [List.map_append]; exact List.mem_append_left _ h
      · exact h
    · intro h
      have h0 := h
      rw [List.map_append] at h
      rcases List.mem_append.1 h with h | h
      · exact .inl ⟨h, .inl (hasS_iff.2 ⟨x, h0, rfl⟩)⟩
      · have hxy : x = toE y := by simpa using h
        have hno : hasS (l.map toE) x.1 = false := by
          cases hh : hasS (l.map toE) x.1 with
          | false => rfl
          | true =>
            obtain ⟨z, hz, e⟩ := hasS_iff.1 hh
            obtain ⟨u, hu, rfl⟩ := List.mem_map.1 hz
            rw [hxy] at e
            exact absurd (st_inj (okV_iff.1 (hm.ok u hu)).1 (okV_iff.1 (hc.ok y (by simp))).1 e) (hy u hu)
        have hno2 : hasS (la.map toE) x.1 = false := by
          cases hh : hasS (la.map toE) x.1 with
          | false => rfl
          | true =>
            obtain ⟨z, hz, e⟩ := hasS_iff.1 hh
            obtain ⟨p, rfl⟩ := hs
            have : hasS ((p ++ la).map toE) x.1 = true := hasS_iff.2 ⟨z, by rw [List.map_append]; exact List.mem_append_right _ hz, e⟩
            rw [hno] at this; cases this
        exact .inr ⟨h0, hno2, hno⟩
  have h1 := enc_srt (fun x hx => (okE_iff.1 (hk x hx)).1) hE.1
  have h2 := enc_srt hc.okk hc.srtE
  have h3 := srt_ext h1 h2 (fun p => by
    obtain ⟨k, v⟩ := p
    rw [mem_enc, mem_enc]
    exact ⟨fun ⟨x, hx, h⟩ => ⟨x, (hmem x).1 hx, h⟩, fun ⟨x, hx, h⟩ => ⟨x, (hmem x).2 hx, h⟩⟩)
  have h4 : thrV l la (la ++ [y]) = la ++ [y] := by
    have e5 : (elsF (l.map toE) (la.map toE) ((la ++ [y]).map toE) (la.map toE) ((la ++ [y]).map toE)).map toV = ((la ++ [y]).map toE).map toV := by
      have dec : ∀ L : List El, (∀ x ∈ L, okE x = true) → (L.map enc).map decV = L.map toV := fun L hL => (decV_enc hL).2
      rw [← dec _ hk, ← dec _ hc.oke, h3]
    unfold thrV
    rw [e5]
    exact map_toV hc.ok
  exact h4
theorem behind_ne {l : List Ev} {t : Tr ByteArray} {s : Sv} (hr : Reg l t) (hs : s.ok = true) (hb : behindV l s = true) : ∀ z ∈ l, z.1 ≠ s := fun z hz e => by
  have h1 := hr.lt_last hs hb (encV z) (by rw [hr.it]; exact List.mem_map.2 ⟨z, hz, rfl⟩)
  rw [← e] at h1
  exact absurd h1 (by rw [show (encV z).1 = keyB z.1.st from rfl, klt_irrefl]; simp)
theorem qu_PopAny (L : List Ev) (tr : Tr ByteArray) (w : World) (h : AtS w tr) (hr : Reg L tr) (hz : L.length ≤ 100000) :
    Calls Try.prog 57 #[.agg #[.pointer (pa tr)]] w fun e w' => ∃ (m : Tr ByteArray) (y : Ev), e = .returned (.tuple #[.agg #[.pointer (pa m)], .agg #[.int .i64 y.1.g, .int .i64 y.1.r, .string y.1.l, .int .i64 y.1.n, .int .i64 y.1.i, .string y.2], .bool (decide (0 < L.length))]) ∧ y = (firstE L).1 ∧ AtS w' m ∧ Reg L.tail m ∧ Below w.heap.size w w' := by
  cases L with
  | nil =>
    refine (qu_PopNo tr w h (by rw [hr.len]; exact hz) hr.keys hr.shown).mono ?_
    rintro e w' ⟨rfl, hb⟩
    exact ⟨tr, zeroE, rfl, rfl, h.below hb rfl, hr, hb⟩
  | cons x L =>
    refine (qu_Pop x L tr w h hr (by rw [List.length_cons] at hz; omega)).mono ?_
    rintro e w' ⟨m, rfl, hm, hr', hb⟩
    exact ⟨m, x, by rw [decide_eq_true (by simp)], rfl, hm, hr', hb⟩
theorem beh_tail {L : List Ev} {s : Sv} (h : behindV L s = true) : behindV L.tail s = true := by
  cases L with
  | nil => rfl
  | cons x L =>
    cases L with
    | nil => rfl
    | cons y L =>
      unfold behindV at h ⊢
      rw [List.getLast?_cons_cons] at h
      exact h
set_option maxRecDepth 100000 in
set_option maxHeartbeats 8000000 in
theorem law_Pops (l : List Ev) (s : Sv) (x : ByteArray) (a : Option Addr) (n c : Nat) (w : World) (hl : CellsAt w a (elsV l)) (hn : n = l.length) (hb : n ≤ 9223372036854775807) (hs : ∀ e ∈ l, e.1.l.size ≤ 9223372036854775807) (hss : s.l.size ≤ 9223372036854775807) :
    Calls Try.prog 8 #[.slice a n c, .agg #[.int .i64 s.g, .int .i64 s.r, .string s.l, .int .i64 s.n, .int .i64 s.i], .string x] w fun e w' => e = .returned (.bool true) ∧ Below w.heap.size w w' := by
  have HL := Lib.hid hl
  have HN := Lib.hid hn
  have HB := Lib.hid hb
  have HS := Lib.hid hs
  have HSS := Lib.hid hss
  clear hl hn hs hss
  have HC : Hid (Chain [w] w) := Lib.hid (Chain.one w)
  go_enter Try.func8, Try.ntmps8
  go_upto_region 1 with (fail)
  obtain ⟨c1, hc1⟩ : ∃ c, w.heap.size = c := ⟨_, rfl⟩
  try rw [hc1]
  obtain ⟨w1, hw1⟩ : ∃ X, allocs w [.cells #[.int .i64 s.g, .int .i64 s.r, .string s.l, .int .i64 s.n, .int .i64 s.i] 41] = X := ⟨_, rfl⟩
  rw [show w.alloc (.cells #[.int .i64 s.g, .int .i64 s.r, .string s.l, .int .i64 s.n, .int .i64 s.i] 41) = w1 from hw1]
  have hb : Below w.heap.size w w1 := by rw [← hw1]; exact allocs_below _ _
  have HSB : Hid (w1.heap[c1]? = some (.cells #[.int .i64 s.g, .int .i64 s.r, .string s.l, .int .i64 s.n, .int .i64 s.i] 41 (0, 0))) := Lib.hid (by have := allocs_get [.cells #[.int .i64 s.g, .int .i64 s.r, .string s.l, .int .i64 s.n, .int .i64 s.i] 41] w 0 _ rfl; rw [hw1, hc1] at this; exact this)
  have Sc1 : Hid (w.heap.size = c1) := Lib.hid hc1
  replace HC := Lib.hid (HC.out.push hb)
  clear hb hw1 hc1
  go_wp2_with fail
  refine (known_13 _).mono ?_
  rintro e w2 ⟨rfl, hb⟩
  replace HC := Lib.hid (HC.out.push hb)
  clear hb
  go_upto_region 3 with (fail)
  have S2 := Lib.hid (boxStays HSB.out (HC.out.to w1 (by simp)))
  have MAY0 : Hid (∀ W, Below w2.heap.size w2 W → Calls Try.prog 36 #[.slice a n c] W fun e w' => e = .returned (.bool (mayV l)) ∧ Below W.heap.size W w') := Lib.hid (fun W hW => ref13_May l a n c W ((HL.out.below (HC.out.to w (by simp)) rfl).below hW rfl) HN.out HB.out HS.out)
  have FIT0 : Hid (∀ W, Calls Try.prog 55 #[.agg #[.int .i64 s.g, .int .i64 s.r, .string s.l, .int .i64 s.n, .int .i64 s.i], .string x] W fun e w' => e = .returned (.bool (okV (s, x))) ∧ Below W.heap.size W w') := Lib.hid (fun W => ref13_Fits s x W HSS.out)
  have HL2 := Lib.hid (HL.out.below (HC.out.to w (by simp)) rfl)
  by_cases q1 : 60 < n
  ·
    have Q1 : Hid ((60 : Int) < (n : Int)) := Lib.hid (by omega)
    refine relG_start (slots := [24, 25, 26, 27, 28, 29, 30, 31, 32, 33, 34, 35, 36, 37, 38, 39, 40, 41, 42, 43, 44]) (so := []) (by kernel_rfl) (by kernel_rfl) (by rfl) ?_
    refine relG_pure (i := 0) (o := ⟨some 24, _, _, _, _, _⟩) (v := ?v1) [] [0] rfl rfl (by kernel_rfl) (by kernel_rfl) (fun t w1 hB hf hbf => ?y1) ?n1
    case y1 =>
      simp only [BasF] at hbf
      clear hf
      obtain ⟨⟨b0, k0⟩, _⟩ := hbf
      have hx := boxStays S2.out hB
      have x0 := cell_of_row _ c1 0 _ _ _ hx
      have x1 := cell_of_row _ c1 1 _ _ _ hx
      have x2 := cell_of_row _ c1 2 _ _ _ hx
      have x3 := cell_of_row _ c1 3 _ _ _ hx
      have x4 := cell_of_row _ c1 4 _ _ _ hx
      have q1i := Q1.out
      clear hx
      refine Or.inl ⟨wanted_none rfl, ?_⟩
      rintro _ rfl
      go_simp <;> with_reducible rfl
    refine relG_pure (i := 1) (o := ⟨some 25, _, _, _, _, _⟩) (v := ?v2) [(0, 24, 0)] [] rfl rfl (by kernel_rfl) (by kernel_rfl) (fun t w1 hB hf hbf => ?y2) ?n2
    case y2 =>
      simp only [DepF, List.getD_cons_zero] at hf
      obtain ⟨⟨_, ⟨e24, i24⟩, rfl⟩, _⟩ := hf
      clear hbf
      have hx := boxStays S2.out hB
      have x0 := cell_of_row _ c1 0 _ _ _ hx
      have x1 := cell_of_row _ c1 1 _ _ _ hx
      have x2 := cell_of_row _ c1 2 _ _ _ hx
      have x3 := cell_of_row _ c1 3 _ _ _ hx
      have x4 := cell_of_row _ c1 4 _ _ _ hx
      have q1i := Q1.out
      clear hx
      refine Or.inl ⟨wanted_none rfl, ?_⟩
      rintro _ rfl
      go_simp <;> with_reducible rfl
    refine relG_pure (i := 2) (o := ⟨some 26, _, _, _, _, _⟩) (v := ?v3) [(1, 25, 0)] [] rfl rfl (by kernel_rfl) (by kernel_rfl) (fun t w1 hB hf hbf => ?y3) ?n3
    case y3 =>
      simp only [DepF, List.getD_cons_zero] at hf
      obtain ⟨⟨_, ⟨e25, i25⟩, rfl⟩, _⟩ := hf
      clear hbf
      have hx := boxStays S2.out hB
      have x0 := cell_of_row _ c1 0 _ _ _ hx
      have x1 := cell_of_row _ c1 1 _ _ _ hx
      have x2 := cell_of_row _ c1 2 _ _ _ hx
      have x3 := cell_of_row _ c1 3 _ _ _ hx
      have x4 := cell_of_row _ c1 4 _ _ _ hx
      have q1i := Q1.out
      clear hx
      refine Or.inl ⟨wanted_none rfl, ?_⟩
      rintro _ rfl
      go_simp <;> with_reducible rfl
    refine relG_pure (i := 3) (o := ⟨some 27, _, _, _, _, _⟩) (v := ?v4) [(2, 26, 0)] [] rfl rfl (by kernel_rfl) (by kernel_rfl) (fun t w1 hB hf hbf => ?y4) ?n4
    case y4 =>
      simp only [DepF, List.getD_cons_zero] at hf
      obtain ⟨⟨_, ⟨e26, i26⟩, rfl⟩, _⟩ := hf
      clear hbf
      have hx := boxStays S2.out hB
      have x0 := cell_of_row _ c1 0 _ _ _ hx
      have x1 := cell_of_row _ c1 1 _ _ _ hx
      have x2 := cell_of_row _ c1 2 _ _ _ hx
      have x3 := cell_of_row _ c1 3 _ _ _ hx
      have x4 := cell_of_row _ c1 4 _ _ _ hx
      have q1i := Q1.out
      clear hx
      refine Or.inl ⟨wanted_none rfl, ?_⟩
      rintro _ rfl
      go_simp <;> with_reducible rfl
    refine relG_pure (i := 4) (o := ⟨some 28, _, _, _, _, _⟩) (v := undef) [(3, 27, 0)] [0] rfl rfl (by kernel_rfl) (by kernel_rfl) (fun t w1 hB hf hbf => ?_) ?_
    · simp only [DepF, List.getD_cons_zero] at hf
      obtain ⟨⟨_, ⟨e27, i27⟩, rfl⟩, _⟩ := hf
      exact Or.inr ⟨(by have hg := getD_some i27; simp [Region.wanted, yielded, hg]), rfl⟩
    refine relG_pure (i := 5) (o := ⟨some 29, _, _, _, _, _⟩) (v := undef) [(4, 28, 0), (3, 27, 1)] [] rfl rfl (by kernel_rfl) (by kernel_rfl) (fun t w1 hB hf hbf => ?_) ?_
    · simp only [DepF, List.getD_cons_zero, List.getD_cons_succ] at hf
      obtain ⟨⟨_, ⟨e28, i28⟩, rfl⟩, ⟨_, ⟨e27, i27⟩, rfl⟩, _⟩ := hf
      exact Or.inr ⟨(by have hg := getD_some i27; simp [Region.wanted, yielded, hg]), rfl⟩
    refine relG_pure (i := 6) (o := ⟨some 30, _, _, _, _, _⟩) (v := undef) [(5, 29, 0), (3, 27, 2)] [] rfl rfl (by kernel_rfl) (by kernel_rfl) (fun t w1 hB hf hbf => ?_) ?_
    · simp only [DepF, List.getD_cons_zero, List.getD_cons_succ] at hf
      obtain ⟨⟨_, ⟨e29, i29⟩, rfl⟩, ⟨_, ⟨e27, i27⟩, rfl⟩, _⟩ := hf
      exact Or.inr ⟨(by have hg := getD_some i27; simp [Region.wanted, yielded, hg]), rfl⟩
    refine relG_pure (i := 7) (o := ⟨some 31, _, _, _, _, _⟩) (v := ?v5) [(3, 27, 3), (6, 30, 0)] [] rfl rfl (by kernel_rfl) (by kernel_rfl) (fun t w1 hB hf hbf => ?y5) ?n5
    case y5 =>
      simp only [DepF, List.getD_cons_zero, List.getD_cons_succ] at hf
      obtain ⟨⟨_, ⟨e27, i27⟩, rfl⟩, ⟨_, ⟨e30, i30⟩, rfl⟩, _⟩ := hf
      clear hbf
      have hx := boxStays S2.out hB
      have x0 := cell_of_row _ c1 0 _ _ _ hx
      have x1 := cell_of_row _ c1 1 _ _ _ hx
      have x2 := cell_of_row _ c1 2 _ _ _ hx
      have x3 := cell_of_row _ c1 3 _ _ _ hx
      have x4 := cell_of_row _ c1 4 _ _ _ hx
      have q1i := Q1.out
      clear hx
      refine Or.inl ⟨wanted_none rfl, ?_⟩
      rintro _ rfl
      go_simp <;> with_reducible rfl
    refine relG_pure (i := 8) (o := ⟨some 32, _, _, _, _, _⟩) (v := ?v6) [(7, 31, 0)] [] rfl rfl (by kernel_rfl) (by kernel_rfl) (fun t w1 hB hf hbf => ?y6) ?n6
    case y6 =>
      simp only [DepF, List.getD_cons_zero] at hf
      obtain ⟨⟨_, ⟨e31, i31⟩, rfl⟩, _⟩ := hf
      clear hbf
      have hx := boxStays S2.out hB
      have x0 := cell_of_row _ c1 0 _ _ _ hx
      have x1 := cell_of_row _ c1 1 _ _ _ hx
      have x2 := cell_of_row _ c1 2 _ _ _ hx
      have x3 := cell_of_row _ c1 3 _ _ _ hx
      have x4 := cell_of_row _ c1 4 _ _ _ hx
      have q1i := Q1.out
      clear hx
      refine Or.inl ⟨wanted_none rfl, ?_⟩
      rintro _ rfl
      go_simp <;> with_reducible rfl
    refine relG_pure (i := 9) (o := ⟨some 33, _, _, _, _, _⟩) (v := undef) [(8, 32, 0)] [4] rfl rfl (by kernel_rfl) (by kernel_rfl) (fun t w1 hB hf hbf => ?_) ?_
    · simp only [DepF, List.getD_cons_zero] at hf
      obtain ⟨⟨_, ⟨e32, i32⟩, rfl⟩, _⟩ := hf
      exact Or.inr ⟨(by have hg := getD_some i32; simp [Region.wanted, yielded, hg]), rfl⟩
    refine relG_pure (i := 10) (o := ⟨some 34, _, _, _, _, _⟩) (v := undef) [(8, 32, 1)] [2] rfl rfl (by kernel_rfl) (by kernel_rfl) (fun t w1 hB hf hbf => ?_) ?_
    · simp only [DepF, List.getD_cons_zero, List.getD_cons_succ] at hf
      obtain ⟨⟨_, ⟨e32, i32⟩, rfl⟩, _⟩ := hf
      exact Or.inr ⟨(by have hg := getD_some i32; simp [Region.wanted, yielded, hg]), rfl⟩
    refine relG_pure (i := 11) (o := ⟨some 35, _, _, _, _, _⟩) (v := undef) [(9, 33, 1), (10, 34, 0), (8, 32, 2)] [] rfl rfl (by kernel_rfl) (by kernel_rfl) (fun t w1 hB hf hbf => ?_) ?_
    · simp only [DepF, List.getD_cons_zero, List.getD_cons_succ] at hf
      obtain ⟨⟨_, ⟨e33, i33⟩, rfl⟩, ⟨_, ⟨e34, i34⟩, rfl⟩, ⟨_, ⟨e32, i32⟩, rfl⟩, _⟩ := hf
      exact Or.inr ⟨(by have hg := getD_some i32; simp [Region.wanted, yielded, hg]), rfl⟩
    refine relG_pure (i := 12) (o := ⟨some 36, _, _, _, _, _⟩) (v := undef) [(11, 35, 0), (8, 32, 3)] [] rfl rfl (by kernel_rfl) (by kernel_rfl) (fun t w1 hB hf hbf => ?_) ?_
    · simp only [DepF, List.getD_cons_zero, List.getD_cons_succ] at hf
      obtain ⟨⟨_, ⟨e35, i35⟩, rfl⟩, ⟨_, ⟨e32, i32⟩, rfl⟩, _⟩ := hf
      exact Or.inr ⟨(by have hg := getD_some i32; simp [Region.wanted, yielded, hg]), rfl⟩
    refine relG_pure (i := 13) (o := ⟨some 37, _, _, _, _, _⟩) (v := ?v7) [(8, 32, 4), (12, 36, 0)] [] rfl rfl (by kernel_rfl) (by kernel_rfl) (fun t w1 hB hf hbf => ?y7) ?n7
    case y7 =>
      simp only [DepF, List.getD_cons_zero, List.getD_cons_succ] at hf
      obtain ⟨⟨_, ⟨e32, i32⟩, rfl⟩, ⟨_, ⟨e36, i36⟩, rfl⟩, _⟩ := hf
      clear hbf
      have hx := boxStays S2.out hB
      have x0 := cell_of_row _ c1 0 _ _ _ hx
      have x1 := cell_of_row _ c1 1 _ _ _ hx
      have x2 := cell_of_row _ c1 2 _ _ _ hx
      have x3 := cell_of_row _ c1 3 _ _ _ hx
      have x4 := cell_of_row _ c1 4 _ _ _ hx
      have q1i := Q1.out
      clear hx
      refine Or.inl ⟨wanted_none rfl, ?_⟩
      rintro _ rfl
      go_simp <;> with_reducible rfl
    refine relG_pure (i := 14) (o := ⟨some 38, _, _, _, _, _⟩) (v := ?v8) [(13, 37, 0)] [] rfl rfl (by kernel_rfl) (by kernel_rfl) (fun t w1 hB hf hbf => ?y8) ?n8
    case y8 =>
      simp only [DepF, List.getD_cons_zero] at hf
      obtain ⟨⟨_, ⟨e37, i37⟩, rfl⟩, _⟩ := hf
      clear hbf
      have hx := boxStays S2.out hB
      have x0 := cell_of_row _ c1 0 _ _ _ hx
      have x1 := cell_of_row _ c1 1 _ _ _ hx
      have x2 := cell_of_row _ c1 2 _ _ _ hx
      have x3 := cell_of_row _ c1 3 _ _ _ hx
      have x4 := cell_of_row _ c1 4 _ _ _ hx
      have q1i := Q1.out
      clear hx
      refine Or.inl ⟨wanted_none rfl, ?_⟩
      rintro _ rfl
      go_simp <;> with_reducible rfl
    refine relG_pure (i := 15) (o := ⟨some 39, _, _, _, _, _⟩) (v := undef) [(14, 38, 0)] [0] rfl rfl (by kernel_rfl) (by kernel_rfl) (fun t w1 hB hf hbf => ?_) ?_
    · simp only [DepF, List.getD_cons_zero] at hf
      obtain ⟨⟨_, ⟨e38, i38⟩, rfl⟩, _⟩ := hf
      exact Or.inr ⟨(by have hg := getD_some i38; simp [Region.wanted, yielded, hg]), rfl⟩
    refine relG_pure (i := 16) (o := ⟨some 40, _, _, _, _, _⟩) (v := undef) [(15, 39, 0), (14, 38, 1)] [] rfl rfl (by kernel_rfl) (by kernel_rfl) (fun t w1 hB hf hbf => ?_) ?_
    · simp only [DepF, List.getD_cons_zero, List.getD_cons_succ] at hf
      obtain ⟨⟨_, ⟨e39, i39⟩, rfl⟩, ⟨_, ⟨e38, i38⟩, rfl⟩, _⟩ := hf
      exact Or.inr ⟨(by have hg := getD_some i38; simp [Region.wanted, yielded, hg]), rfl⟩
    refine relG_pure (i := 17) (o := ⟨some 41, _, _, _, _, _⟩) (v := undef) [(14, 38, 2)] [4] rfl rfl (by kernel_rfl) (by kernel_rfl) (fun t w1 hB hf hbf => ?_) ?_
    · simp only [DepF, List.getD_cons_zero, List.getD_cons_succ] at hf
      obtain ⟨⟨_, ⟨e38, i38⟩, rfl⟩, _⟩ := hf
      exact Or.inr ⟨(by have hg := getD_some i38; simp [Region.wanted, yielded, hg]), rfl⟩
    refine relG_pure (i := 18) (o := ⟨some 42, _, _, _, _, _⟩) (v := undef) [(16, 40, 1), (17, 41, 0), (14, 38, 3)] [] rfl rfl (by kernel_rfl) (by kernel_rfl) (fun t w1 hB hf hbf => ?_) ?_
    · simp only [DepF, List.getD_cons_zero, List.getD_cons_succ] at hf
      obtain ⟨⟨_, ⟨e40, i40⟩, rfl⟩, ⟨_, ⟨e41, i41⟩, rfl⟩, ⟨_, ⟨e38, i38⟩, rfl⟩, _⟩ := hf
      exact Or.inr ⟨(by have hg := getD_some i38; simp [Region.wanted, yielded, hg]), rfl⟩
    refine relG_pure (i := 19) (o := ⟨some 43, _, _, _, _, _⟩) (v := undef) [(18, 42, 0), (14, 38, 4)] [] rfl rfl (by kernel_rfl) (by kernel_rfl) (fun t w1 hB hf hbf => ?_) ?_
    · simp only [DepF, List.getD_cons_zero, List.getD_cons_succ] at hf
      obtain ⟨⟨_, ⟨e42, i42⟩, rfl⟩, ⟨_, ⟨e38, i38⟩, rfl⟩, _⟩ := hf
      exact Or.inr ⟨(by have hg := getD_some i38; simp [Region.wanted, yielded, hg]), rfl⟩
    refine relG_pure (i := 20) (o := ⟨some 44, _, _, _, _, _⟩) (v := ?v9) [(14, 38, 5), (19, 43, 0)] [] rfl rfl (by kernel_rfl) (by kernel_rfl) (fun t w1 hB hf hbf => ?y9) ?n9
    case y9 =>
      simp only [DepF, List.getD_cons_zero, List.getD_cons_succ] at hf
      obtain ⟨⟨_, ⟨e38, i38⟩, rfl⟩, ⟨_, ⟨e43, i43⟩, rfl⟩, _⟩ := hf
      clear hbf
      have hx := boxStays S2.out hB
      have x0 := cell_of_row _ c1 0 _ _ _ hx
      have x1 := cell_of_row _ c1 1 _ _ _ hx
      have x2 := cell_of_row _ c1 2 _ _ _ hx
      have x3 := cell_of_row _ c1 3 _ _ _ hx
      have x4 := cell_of_row _ c1 4 _ _ _ hx
      have q1i := Q1.out
      clear hx
      refine Or.inl ⟨wanted_none rfl, ?_⟩
      rintro _ rfl
      go_simp <;> with_reducible rfl
    refine relG_done [(0, 24, 20), (1, 25, 19), (2, 26, 18), (3, 27, 17), (4, 28, 16), (5, 29, 15), (6, 30, 14), (7, 31, 13), (8, 32, 12), (9, 33, 11), (10, 34, 10), (11, 35, 9), (12, 36, 8), (13, 37, 7), (14, 38, 6), (15, 39, 5), (16, 40, 4), (17, 41, 3), (18, 42, 2), (19, 43, 1), (20, 44, 0)] (by kernel_rfl) rfl (by kernel_rfl) (fun f wE hB hf => ?_)
    simp only [FinF, List.getD_cons_zero, List.getD_cons_succ] at hf
    obtain ⟨⟨_, e24, rfl⟩, ⟨_, e25, rfl⟩, ⟨_, e26, rfl⟩, ⟨_, e27, rfl⟩, ⟨_, e28, rfl⟩, ⟨_, e29, rfl⟩, ⟨_, e30, rfl⟩, ⟨_, e31, rfl⟩, ⟨_, e32, rfl⟩, ⟨_, e33, rfl⟩, ⟨_, e34, rfl⟩, ⟨_, e35, rfl⟩, ⟨_, e36, rfl⟩, ⟨_, e37, rfl⟩, ⟨_, e38, rfl⟩, ⟨_, e39, rfl⟩, ⟨_, e40, rfl⟩, ⟨_, e41, rfl⟩, ⟨_, e42, rfl⟩, ⟨_, e43, rfl⟩, ⟨_, e44, rfl⟩, _⟩ := hf
    simp only [regT, List.foldl_cons, List.foldl_nil, List.setIfInBounds_toArray, List.set_cons_zero, List.set_cons_succ, e24, e25, e26, e27, e28, e29, e30, e31, e32, e33, e34, e35, e36, e37, e38, e39, e40, e41, e42, e43, e44]
    clear e24 e25 e26 e27 e28 e29 e30 e31 e32 e33 e34 e35 e36 e37 e38 e39 e40 e41 e42 e43 e44
    have hb := hB
    clear hB
    replace HC := Lib.hid (HC.out.push hb)
    clear hb
    go_wp2_with fail
    go_ret
    exact ⟨rfl, (HC.out.to w (by simp))⟩
  have Q1 : Hid (¬ (60 : Int) < (n : Int)) := Lib.hid (by omega)
  obtain ⟨mv, hmv⟩ : ∃ q, mayV l = q := ⟨_, rfl⟩
  have MAY := MAY0
  rw [hmv] at MAY
  cases mv
  case false =>
    refine relG_start (slots := [24, 25, 26, 27, 28, 29, 30, 31, 32, 33, 34, 35, 36, 37, 38, 39, 40, 41, 42, 43, 44]) (so := []) (by kernel_rfl) (by kernel_rfl) (by rfl) ?_
    refine relG_pure (i := 0) (o := ⟨some 24, _, _, _, _, _⟩) (v := ?v10) [] [0] rfl rfl (by kernel_rfl) (by kernel_rfl) (fun t w1 hB hf hbf => ?y10) ?n10
    case y10 =>
      simp only [BasF] at hbf
      clear hf
      obtain ⟨⟨b0, k0⟩, _⟩ := hbf
      have hx := boxStays S2.out hB
      have x0 := cell_of_row _ c1 0 _ _ _ hx
      have x1 := cell_of_row _ c1 1 _ _ _ hx
      have x2 := cell_of_row _ c1 2 _ _ _ hx
      have x3 := cell_of_row _ c1 3 _ _ _ hx
      have x4 := cell_of_row _ c1 4 _ _ _ hx
      have q1i := Q1.out
      clear hx
      refine Or.inl ⟨wanted_none rfl, ?_⟩
      rintro _ rfl
      go_simp <;> with_reducible rfl
    refine relG_pure (i := 1) (o := ⟨some 25, _, _, _, _, _⟩) (v := ?v11) [(0, 24, 0)] [] rfl rfl (by kernel_rfl) (by kernel_rfl) (fun t w1 hB hf hbf => ?y11) ?n11
    case y11 =>
      simp only [DepF, List.getD_cons_zero] at hf
      obtain ⟨⟨_, ⟨e24, i24⟩, rfl⟩, _⟩ := hf
      clear hbf
      have hx := boxStays S2.out hB
      have x0 := cell_of_row _ c1 0 _ _ _ hx
      have x1 := cell_of_row _ c1 1 _ _ _ hx
      have x2 := cell_of_row _ c1 2 _ _ _ hx
      have x3 := cell_of_row _ c1 3 _ _ _ hx
      have x4 := cell_of_row _ c1 4 _ _ _ hx
      have q1i := Q1.out
      clear hx
      refine Or.inl ⟨wanted_none rfl, ?_⟩
      rintro _ rfl
      go_simp <;> with_reducible rfl
    refine relG_pure (i := 2) (o := ⟨some 26, _, _, _, _, _⟩) (v := ?v12) [(1, 25, 0)] [] rfl rfl (by kernel_rfl) (by kernel_rfl) (fun t w1 hB hf hbf => ?y12) ?n12
    case y12 =>
      simp only [DepF, List.getD_cons_zero] at hf
      obtain ⟨⟨_, ⟨e25, i25⟩, rfl⟩, _⟩ := hf
      clear hbf
      have hx := boxStays S2.out hB
      have x0 := cell_of_row _ c1 0 _ _ _ hx
      have x1 := cell_of_row _ c1 1 _ _ _ hx
      have x2 := cell_of_row _ c1 2 _ _ _ hx
      have x3 := cell_of_row _ c1 3 _ _ _ hx
      have x4 := cell_of_row _ c1 4 _ _ _ hx
      have q1i := Q1.out
      clear hx
      refine Or.inl ⟨wanted_none rfl, ?_⟩
      rintro _ rfl
      go_simp <;> with_reducible rfl
    refine relG_pure (i := 3) (o := ⟨some 27, _, _, _, _, _⟩) (v := ?v13) [(2, 26, 0)] [] rfl rfl (by kernel_rfl) (by kernel_rfl) (fun t w1 hB hf hbf => ?y13) ?n13
    case y13 =>
      simp only [DepF, List.getD_cons_zero] at hf
      obtain ⟨⟨_, ⟨e26, i26⟩, rfl⟩, _⟩ := hf
      clear hbf
      have hx := boxStays S2.out hB
      have x0 := cell_of_row _ c1 0 _ _ _ hx
      have x1 := cell_of_row _ c1 1 _ _ _ hx
      have x2 := cell_of_row _ c1 2 _ _ _ hx
      have x3 := cell_of_row _ c1 3 _ _ _ hx
      have x4 := cell_of_row _ c1 4 _ _ _ hx
      have q1i := Q1.out
      clear hx
      refine Or.inl ⟨wanted_none rfl, ?_⟩
      rintro _ rfl
      go_simp <;> with_reducible rfl
    refine relG_pure (i := 4) (o := ⟨some 28, _, _, _, _, _⟩) (v := ?v14) [(3, 27, 0)] [0] rfl rfl (by kernel_rfl) (by kernel_rfl) (fun t w1 hB hf hbf => ?y14) ?n14
    case y14 =>
      simp only [DepF, List.getD_cons_zero] at hf
      simp only [BasF] at hbf
      obtain ⟨⟨_, ⟨e27, i27⟩, rfl⟩, _⟩ := hf
      obtain ⟨⟨b0, k0⟩, _⟩ := hbf
      have hx := boxStays S2.out hB
      have x0 := cell_of_row _ c1 0 _ _ _ hx
      have x1 := cell_of_row _ c1 1 _ _ _ hx
      have x2 := cell_of_row _ c1 2 _ _ _ hx
      have x3 := cell_of_row _ c1 3 _ _ _ hx
      have x4 := cell_of_row _ c1 4 _ _ _ hx
      have q1i := Q1.out
      clear hx
      refine Or.inl ⟨(by have hg := getD_some i27; simp [Region.wanted, yielded, hg]), ?_⟩
      rintro _ rfl
      go_simp <;> with_reducible rfl
    refine relG_call (i := 5) (o := ⟨some 29, _, _, _, _, _⟩) ((fun v _ => v = .bool false)) [(4, 28, 0), (3, 27, 1)] [] rfl rfl (by kernel_rfl) (by kernel_rfl) ((fun _ _ _ h _ => h)) ?_ ?_
    · intro t w1 hB hf hbf K hK
      simp only [DepF, List.getD_cons_zero, List.getD_cons_succ] at hf
      obtain ⟨⟨_, ⟨e28, i28⟩, rfl⟩, ⟨_, ⟨e27, i27⟩, rfl⟩, _⟩ := hf
      clear hbf
      have hx := boxStays S2.out hB
      have x0 := cell_of_row _ c1 0 _ _ _ hx
      have x1 := cell_of_row _ c1 1 _ _ _ hx
      have x2 := cell_of_row _ c1 2 _ _ _ hx
      have x3 := cell_of_row _ c1 3 _ _ _ hx
      have x4 := cell_of_row _ c1 4 _ _ _ hx
      have q1i := Q1.out
      clear hx
      refine ⟨(by have hg := getD_some i27; simp [Region.wanted, yielded, hg]), ?_⟩
      go_simp
      refine (MAY.out w1 hB).mono ?_
      rintro e w2 ⟨rfl, hb⟩
      exact hK.out _ w2 (rfl) hb
    refine relG_pure (i := 6) (o := ⟨some 30, _, _, _, _, _⟩) (v := ?v15) [(5, 29, 0), (3, 27, 2)] [] rfl rfl (by kernel_rfl) (by kernel_rfl) (fun t w1 hB hf hbf => ?y15) ?n15
    case y15 =>
      simp only [DepF, List.getD_cons_zero, List.getD_cons_succ] at hf
      obtain ⟨⟨_, ⟨e29, i29⟩, rfl⟩, ⟨_, ⟨e27, i27⟩, rfl⟩, _⟩ := hf
      clear hbf
      have hx := boxStays S2.out hB
      have x0 := cell_of_row _ c1 0 _ _ _ hx
      have x1 := cell_of_row _ c1 1 _ _ _ hx
      have x2 := cell_of_row _ c1 2 _ _ _ hx
      have x3 := cell_of_row _ c1 3 _ _ _ hx
      have x4 := cell_of_row _ c1 4 _ _ _ hx
      have q1i := Q1.out
      clear hx
      refine Or.inl ⟨(by have hg := getD_some i27; simp [Region.wanted, yielded, hg]), ?_⟩
      rintro _ rfl
      go_simp <;> with_reducible rfl
    refine relG_pure (i := 7) (o := ⟨some 31, _, _, _, _, _⟩) (v := ?v16) [(3, 27, 3), (6, 30, 0)] [] rfl rfl (by kernel_rfl) (by kernel_rfl) (fun t w1 hB hf hbf => ?y16) ?n16
    case y16 =>
      simp only [DepF, List.getD_cons_zero, List.getD_cons_succ] at hf
      obtain ⟨⟨_, ⟨e27, i27⟩, rfl⟩, ⟨_, ⟨e30, i30⟩, rfl⟩, _⟩ := hf
      clear hbf
      have hx := boxStays S2.out hB
      have x0 := cell_of_row _ c1 0 _ _ _ hx
      have x1 := cell_of_row _ c1 1 _ _ _ hx
      have x2 := cell_of_row _ c1 2 _ _ _ hx
      have x3 := cell_of_row _ c1 3 _ _ _ hx
      have x4 := cell_of_row _ c1 4 _ _ _ hx
      have q1i := Q1.out
      clear hx
      refine Or.inl ⟨wanted_none rfl, ?_⟩
      rintro _ rfl
      go_simp <;> with_reducible rfl
    refine relG_pure (i := 8) (o := ⟨some 32, _, _, _, _, _⟩) (v := ?v17) [(7, 31, 0)] [] rfl rfl (by kernel_rfl) (by kernel_rfl) (fun t w1 hB hf hbf => ?y17) ?n17
    case y17 =>
      simp only [DepF, List.getD_cons_zero] at hf
      obtain ⟨⟨_, ⟨e31, i31⟩, rfl⟩, _⟩ := hf
      clear hbf
      have hx := boxStays S2.out hB
      have x0 := cell_of_row _ c1 0 _ _ _ hx
      have x1 := cell_of_row _ c1 1 _ _ _ hx
      have x2 := cell_of_row _ c1 2 _ _ _ hx
      have x3 := cell_of_row _ c1 3 _ _ _ hx
      have x4 := cell_of_row _ c1 4 _ _ _ hx
      have q1i := Q1.out
      clear hx
      refine Or.inl ⟨wanted_none rfl, ?_⟩
      rintro _ rfl
      go_simp <;> with_reducible rfl
    refine relG_pure (i := 9) (o := ⟨some 33, _, _, _, _, _⟩) (v := undef) [(8, 32, 0)] [4] rfl rfl (by kernel_rfl) (by kernel_rfl) (fun t w1 hB hf hbf => ?_) ?_
    · simp only [DepF, List.getD_cons_zero] at hf
      obtain ⟨⟨_, ⟨e32, i32⟩, rfl⟩, _⟩ := hf
      exact Or.inr ⟨(by have hg := getD_some i32; simp [Region.wanted, yielded, hg]), rfl⟩
    refine relG_pure (i := 10) (o := ⟨some 34, _, _, _, _, _⟩) (v := undef) [(8, 32, 1)] [2] rfl rfl (by kernel_rfl) (by kernel_rfl) (fun t w1 hB hf hbf => ?_) ?_
    · simp only [DepF, List.getD_cons_zero, List.getD_cons_succ] at hf
      obtain ⟨⟨_, ⟨e32, i32⟩, rfl⟩, _⟩ := hf
      exact Or.inr ⟨(by have hg := getD_some i32; simp [Region.wanted, yielded, hg]), rfl⟩
    refine relG_pure (i := 11) (o := ⟨some 35, _, _, _, _, _⟩) (v := undef) [(9, 33, 1), (10, 34, 0), (8, 32, 2)] [] rfl rfl (by kernel_rfl) (by kernel_rfl) (fun t w1 hB hf hbf => ?_) ?_
    · simp only [DepF, List.getD_cons_zero, List.getD_cons_succ] at hf
      obtain ⟨⟨_, ⟨e33, i33⟩, rfl⟩, ⟨_, ⟨e34, i34⟩, rfl⟩, ⟨_, ⟨e32, i32⟩, rfl⟩, _⟩ := hf
      exact Or.inr ⟨(by have hg := getD_some i32; simp [Region.wanted, yielded, hg]), rfl⟩
    refine relG_pure (i := 12) (o := ⟨some 36, _, _, _, _, _⟩) (v := undef) [(11, 35, 0), (8, 32, 3)] [] rfl rfl (by kernel_rfl) (by kernel_rfl) (fun t w1 hB hf hbf => ?_) ?_
    · simp only [DepF, List.getD_cons_zero, List.getD_cons_succ] at hf
      obtain ⟨⟨_, ⟨e35, i35⟩, rfl⟩, ⟨_, ⟨e32, i32⟩, rfl⟩, _⟩ := hf
      exact Or.inr ⟨(by have hg := getD_some i32; simp [Region.wanted, yielded, hg]), rfl⟩
    refine relG_pure (i := 13) (o := ⟨some 37, _, _, _, _, _⟩) (v := ?v18) [(8, 32, 4), (12, 36, 0)] [] rfl rfl (by kernel_rfl) (by kernel_rfl) (fun t w1 hB hf hbf => ?y18) ?n18
    case y18 =>
      simp only [DepF, List.getD_cons_zero, List.getD_cons_succ] at hf
      obtain ⟨⟨_, ⟨e32, i32⟩, rfl⟩, ⟨_, ⟨e36, i36⟩, rfl⟩, _⟩ := hf
      clear hbf
      have hx := boxStays S2.out hB
      have x0 := cell_of_row _ c1 0 _ _ _ hx
      have x1 := cell_of_row _ c1 1 _ _ _ hx
      have x2 := cell_of_row _ c1 2 _ _ _ hx
      have x3 := cell_of_row _ c1 3 _ _ _ hx
      have x4 := cell_of_row _ c1 4 _ _ _ hx
      have q1i := Q1.out
      clear hx
      refine Or.inl ⟨wanted_none rfl, ?_⟩
      rintro _ rfl
      go_simp <;> with_reducible rfl
    refine relG_pure (i := 14) (o := ⟨some 38, _, _, _, _, _⟩) (v := ?v19) [(13, 37, 0)] [] rfl rfl (by kernel_rfl) (by kernel_rfl) (fun t w1 hB hf hbf => ?y19) ?n19
    case y19 =>
      simp only [DepF, List.getD_cons_zero] at hf
      obtain ⟨⟨_, ⟨e37, i37⟩, rfl⟩, _⟩ := hf
      clear hbf
      have hx := boxStays S2.out hB
      have x0 := cell_of_row _ c1 0 _ _ _ hx
      have x1 := cell_of_row _ c1 1 _ _ _ hx
      have x2 := cell_of_row _ c1 2 _ _ _ hx
      have x3 := cell_of_row _ c1 3 _ _ _ hx
      have x4 := cell_of_row _ c1 4 _ _ _ hx
      have q1i := Q1.out
      clear hx
      refine Or.inl ⟨wanted_none rfl, ?_⟩
      rintro _ rfl
      go_simp <;> with_reducible rfl
    refine relG_pure (i := 15) (o := ⟨some 39, _, _, _, _, _⟩) (v := undef) [(14, 38, 0)] [0] rfl rfl (by kernel_rfl) (by kernel_rfl) (fun t w1 hB hf hbf => ?_) ?_
    · simp only [DepF, List.getD_cons_zero] at hf
      obtain ⟨⟨_, ⟨e38, i38⟩, rfl⟩, _⟩ := hf
      exact Or.inr ⟨(by have hg := getD_some i38; simp [Region.wanted, yielded, hg]), rfl⟩
    refine relG_pure (i := 16) (o := ⟨some 40, _, _, _, _, _⟩) (v := undef) [(15, 39, 0), (14, 38, 1)] [] rfl rfl (by kernel_rfl) (by kernel_rfl) (fun t w1 hB hf hbf => ?_) ?_
    · simp only [DepF, List.getD_cons_zero, List.getD_cons_succ] at hf
      obtain ⟨⟨_, ⟨e39, i39⟩, rfl⟩, ⟨_, ⟨e38, i38⟩, rfl⟩, _⟩ := hf
      exact Or.inr ⟨(by have hg := getD_some i38; simp [Region.wanted, yielded, hg]), rfl⟩
    refine relG_pure (i := 17) (o := ⟨some 41, _, _, _, _, _⟩) (v := undef) [(14, 38, 2)] [4] rfl rfl (by kernel_rfl) (by kernel_rfl) (fun t w1 hB hf hbf => ?_) ?_
    · simp only [DepF, List.getD_cons_zero, List.getD_cons_succ] at hf
      obtain ⟨⟨_, ⟨e38, i38⟩, rfl⟩, _⟩ := hf
      exact Or.inr ⟨(by have hg := getD_some i38; simp [Region.wanted, yielded, hg]), rfl⟩
    refine relG_pure (i := 18) (o := ⟨some 42, _, _, _, _, _⟩) (v := undef) [(16, 40, 1), (17, 41, 0), (14, 38, 3)] [] rfl rfl (by kernel_rfl) (by kernel_rfl) (fun t w1 hB hf hbf => ?_) ?_
    · simp only [DepF, List.getD_cons_zero, List.getD_cons_succ] at hf
      obtain ⟨⟨_, ⟨e40, i40⟩, rfl⟩, ⟨_, ⟨e41, i41⟩, rfl⟩, ⟨_, ⟨e38, i38⟩, rfl⟩, _⟩ := hf
      exact Or.inr ⟨(by have hg := getD_some i38; simp [Region.wanted, yielded, hg]), rfl⟩
    refine relG_pure (i := 19) (o := ⟨some 43, _, _, _, _, _⟩) (v := undef) [(18, 42, 0), (14, 38, 4)] [] rfl rfl (by kernel_rfl) (by kernel_rfl) (fun t w1 hB hf hbf => ?_) ?_
    · simp only [DepF, List.getD_cons_zero, List.getD_cons_succ] at hf
      obtain ⟨⟨_, ⟨e42, i42⟩, rfl⟩, ⟨_, ⟨e38, i38⟩, rfl⟩, _⟩ := hf
      exact Or.inr ⟨(by have hg := getD_some i38; simp [Region.wanted, yielded, hg]), rfl⟩
    refine relG_pure (i := 20) (o := ⟨some 44, _, _, _, _, _⟩) (v := ?v20) [(14, 38, 5), (19, 43, 0)] [] rfl rfl (by kernel_rfl) (by kernel_rfl) (fun t w1 hB hf hbf => ?y20) ?n20
    case y20 =>
      simp only [DepF, List.getD_cons_zero, List.getD_cons_succ] at hf
      obtain ⟨⟨_, ⟨e38, i38⟩, rfl⟩, ⟨_, ⟨e43, i43⟩, rfl⟩, _⟩ := hf
      clear hbf
      have hx := boxStays S2.out hB
      have x0 := cell_of_row _ c1 0 _ _ _ hx
      have x1 := cell_of_row _ c1 1 _ _ _ hx
      have x2 := cell_of_row _ c1 2 _ _ _ hx
      have x3 := cell_of_row _ c1 3 _ _ _ hx
      have x4 := cell_of_row _ c1 4 _ _ _ hx
      have q1i := Q1.out
      clear hx
      refine Or.inl ⟨wanted_none rfl, ?_⟩
      rintro _ rfl
      go_simp <;> with_reducible rfl
    refine relG_done [(0, 24, 20), (1, 25, 19), (2, 26, 18), (3, 27, 17), (4, 28, 16), (5, 29, 15), (6, 30, 14), (7, 31, 13), (8, 32, 12), (9, 33, 11), (10, 34, 10), (11, 35, 9), (12, 36, 8), (13, 37, 7), (14, 38, 6), (15, 39, 5), (16, 40, 4), (17, 41, 3), (18, 42, 2), (19, 43, 1), (20, 44, 0)] (by kernel_rfl) rfl (by kernel_rfl) (fun f wE hB hf => ?_)
    simp only [FinF, List.getD_cons_zero, List.getD_cons_succ] at hf
    obtain ⟨⟨_, e24, rfl⟩, ⟨_, e25, rfl⟩, ⟨_, e26, rfl⟩, ⟨_, e27, rfl⟩, ⟨_, e28, rfl⟩, ⟨_, e29, rfl⟩, ⟨_, e30, rfl⟩, ⟨_, e31, rfl⟩, ⟨_, e32, rfl⟩, ⟨_, e33, rfl⟩, ⟨_, e34, rfl⟩, ⟨_, e35, rfl⟩, ⟨_, e36, rfl⟩, ⟨_, e37, rfl⟩, ⟨_, e38, rfl⟩, ⟨_, e39, rfl⟩, ⟨_, e40, rfl⟩, ⟨_, e41, rfl⟩, ⟨_, e42, rfl⟩, ⟨_, e43, rfl⟩, ⟨_, e44, rfl⟩, _⟩ := hf
    simp only [regT, List.foldl_cons, List.foldl_nil, List.setIfInBounds_toArray, List.set_cons_zero, List.set_cons_succ, e24, e25, e26, e27, e28, e29, e30, e31, e32, e33, e34, e35, e36, e37, e38, e39, e40, e41, e42, e43, e44]
    clear e24 e25 e26 e27 e28 e29 e30 e31 e32 e33 e34 e35 e36 e37 e38 e39 e40 e41 e42 e43 e44
    have hb := hB
    clear hB
    replace HC := Lib.hid (HC.out.push hb)
    clear hb
    go_wp2_with fail
    go_ret
    exact ⟨rfl, (HC.out.to w (by simp))⟩
  have SRT : Hid (∀ W, Below w2.heap.size w2 W → Calls Try.prog 38 #[.slice a n c] W fun e w' => ∃ a c, e = .returned (.slice a n c) ∧ CellsAt w' a (elsV (sortV l)) ∧ Below W.heap.size W w') := Lib.hid (fun W hW => (ref13_Sorted l a n c W (HL2.out.below hW rfl) HN.out (by omega) HS.out).mono fun e w' ⟨v, h1, h2, h3⟩ => by obtain ⟨a, c, rfl, _⟩ := own_slice h2; exact ⟨a, c, h1, CellsAt.ownN h2, h3⟩)
  have BEH0 : Hid (∀ W a c, CellsAt W a (elsV (sortV l)) → Calls Try.prog 56 #[.slice a n c, .agg #[.int .i64 s.g, .int .i64 s.r, .string s.l, .int .i64 s.n, .int .i64 s.i]] W fun e w' => e = .returned (.bool (behindV (sortV l) s)) ∧ Below W.heap.size W w') := Lib.hid (fun W a c hc => ref13_Behind (sortV l) s a n c W hc (by rw [sortV_length]; exact HN.out) (by omega) HSS.out (fun e he => HS.out e (sortV_mem.1 he)))
  obtain ⟨fv, hfv⟩ : ∃ q, okV (s, x) = q := ⟨_, rfl⟩
  have FIT := FIT0
  rw [hfv] at FIT
  cases fv
  case false =>
    refine relG_start (slots := [24, 25, 26, 27, 28, 29, 30, 31, 32, 33, 34, 35, 36, 37, 38, 39, 40, 41, 42, 43, 44]) (so := []) (by kernel_rfl) (by kernel_rfl) (by rfl) ?_
    refine relG_pure (i := 0) (o := ⟨some 24, _, _, _, _, _⟩) (v := ?v21) [] [0] rfl rfl (by kernel_rfl) (by kernel_rfl) (fun t w1 hB hf hbf => ?y21) ?n21
    case y21 =>
      simp only [BasF] at hbf
      clear hf
      obtain ⟨⟨b0, k0⟩, _⟩ := hbf
      have hx := boxStays S2.out hB
      have x0 := cell_of_row _ c1 0 _ _ _ hx
      have x1 := cell_of_row _ c1 1 _ _ _ hx
      have x2 := cell_of_row _ c1 2 _ _ _ hx
      have x3 := cell_of_row _ c1 3 _ _ _ hx
      have x4 := cell_of_row _ c1 4 _ _ _ hx
      have q1i := Q1.out
      clear hx
      refine Or.inl ⟨wanted_none rfl, ?_⟩
      rintro _ rfl
      go_simp <;> with_reducible rfl
    refine relG_pure (i := 1) (o := ⟨some 25, _, _, _, _, _⟩) (v := ?v22) [(0, 24, 0)] [] rfl rfl (by kernel_rfl) (by kernel_rfl) (fun t w1 hB hf hbf => ?y22) ?n22
    case y22 =>
      simp only [DepF, List.getD_cons_zero] at hf
      obtain ⟨⟨_, ⟨e24, i24⟩, rfl⟩, _⟩ := hf
      clear hbf
      have hx := boxStays S2.out hB
      have x0 := cell_of_row _ c1 0 _ _ _ hx
      have x1 := cell_of_row _ c1 1 _ _ _ hx
      have x2 := cell_of_row _ c1 2 _ _ _ hx
      have x3 := cell_of_row _ c1 3 _ _ _ hx
      have x4 := cell_of_row _ c1 4 _ _ _ hx
      have q1i := Q1.out
      clear hx
      refine Or.inl ⟨wanted_none rfl, ?_⟩
      rintro _ rfl
      go_simp <;> with_reducible rfl
    refine relG_pure (i := 2) (o := ⟨some 26, _, _, _, _, _⟩) (v := ?v23) [(1, 25, 0)] [] rfl rfl (by kernel_rfl) (by kernel_rfl) (fun t w1 hB hf hbf => ?y23) ?n23
    case y23 =>
      simp only [DepF, List.getD_cons_zero] at hf
      obtain ⟨⟨_, ⟨e25, i25⟩, rfl⟩, _⟩ := hf
      clear hbf
      have hx := boxStays S2.out hB
      have x0 := cell_of_row _ c1 0 _ _ _ hx
      have x1 := cell_of_row _ c1 1 _ _ _ hx
      have x2 := cell_of_row _ c1 2 _ _ _ hx
      have x3 := cell_of_row _ c1 3 _ _ _ hx
      have x4 := cell_of_row _ c1 4 _ _ _ hx
      have q1i := Q1.out
      clear hx
      refine Or.inl ⟨wanted_none rfl, ?_⟩
      rintro _ rfl
      go_simp <;> with_reducible rfl
    refine relG_pure (i := 3) (o := ⟨some 27, _, _, _, _, _⟩) (v := ?v24) [(2, 26, 0)] [] rfl rfl (by kernel_rfl) (by kernel_rfl) (fun t w1 hB hf hbf => ?y24) ?n24
    case y24 =>
      simp only [DepF, List.getD_cons_zero] at hf
      obtain ⟨⟨_, ⟨e26, i26⟩, rfl⟩, _⟩ := hf
      clear hbf
      have hx := boxStays S2.out hB
      have x0 := cell_of_row _ c1 0 _ _ _ hx
      have x1 := cell_of_row _ c1 1 _ _ _ hx
      have x2 := cell_of_row _ c1 2 _ _ _ hx
      have x3 := cell_of_row _ c1 3 _ _ _ hx
      have x4 := cell_of_row _ c1 4 _ _ _ hx
      have q1i := Q1.out
      clear hx
      refine Or.inl ⟨wanted_none rfl, ?_⟩
      rintro _ rfl
      go_simp <;> with_reducible rfl
    refine relG_pure (i := 4) (o := ⟨some 28, _, _, _, _, _⟩) (v := ?v25) [(3, 27, 0)] [0] rfl rfl (by kernel_rfl) (by kernel_rfl) (fun t w1 hB hf hbf => ?y25) ?n25
    case y25 =>
      simp only [DepF, List.getD_cons_zero] at hf
      simp only [BasF] at hbf
      obtain ⟨⟨_, ⟨e27, i27⟩, rfl⟩, _⟩ := hf
      obtain ⟨⟨b0, k0⟩, _⟩ := hbf
      have hx := boxStays S2.out hB
      have x0 := cell_of_row _ c1 0 _ _ _ hx
      have x1 := cell_of_row _ c1 1 _ _ _ hx
      have x2 := cell_of_row _ c1 2 _ _ _ hx
      have x3 := cell_of_row _ c1 3 _ _ _ hx
      have x4 := cell_of_row _ c1 4 _ _ _ hx
      have q1i := Q1.out
      clear hx
      refine Or.inl ⟨(by have hg := getD_some i27; simp [Region.wanted, yielded, hg]), ?_⟩
      rintro _ rfl
      go_simp <;> with_reducible rfl
    refine relG_call (i := 5) (o := ⟨some 29, _, _, _, _, _⟩) ((fun v _ => v = .bool true)) [(4, 28, 0), (3, 27, 1)] [] rfl rfl (by kernel_rfl) (by kernel_rfl) ((fun _ _ _ h _ => h)) ?_ ?_
    · intro t w1 hB hf hbf K hK
      simp only [DepF, List.getD_cons_zero, List.getD_cons_succ] at hf
      obtain ⟨⟨_, ⟨e28, i28⟩, rfl⟩, ⟨_, ⟨e27, i27⟩, rfl⟩, _⟩ := hf
      clear hbf
      have hx := boxStays S2.out hB
      have x0 := cell_of_row _ c1 0 _ _ _ hx
      have x1 := cell_of_row _ c1 1 _ _ _ hx
      have x2 := cell_of_row _ c1 2 _ _ _ hx
      have x3 := cell_of_row _ c1 3 _ _ _ hx
      have x4 := cell_of_row _ c1 4 _ _ _ hx
      have q1i := Q1.out
      clear hx
      refine ⟨(by have hg := getD_some i27; simp [Region.wanted, yielded, hg]), ?_⟩
      go_simp
      refine (MAY.out w1 hB).mono ?_
      rintro e w2 ⟨rfl, hb⟩
      exact hK.out _ w2 (rfl) hb
    refine relG_pure (i := 6) (o := ⟨some 30, _, _, _, _, _⟩) (v := ?v26) [(5, 29, 0), (3, 27, 2)] [] rfl rfl (by kernel_rfl) (by kernel_rfl) (fun t w1 hB hf hbf => ?y26) ?n26
    case y26 =>
      simp only [DepF, List.getD_cons_zero, List.getD_cons_succ] at hf
      obtain ⟨⟨_, ⟨e29, i29⟩, rfl⟩, ⟨_, ⟨e27, i27⟩, rfl⟩, _⟩ := hf
      clear hbf
      have hx := boxStays S2.out hB
      have x0 := cell_of_row _ c1 0 _ _ _ hx
      have x1 := cell_of_row _ c1 1 _ _ _ hx
      have x2 := cell_of_row _ c1 2 _ _ _ hx
      have x3 := cell_of_row _ c1 3 _ _ _ hx
      have x4 := cell_of_row _ c1 4 _ _ _ hx
      have q1i := Q1.out
      clear hx
      refine Or.inl ⟨(by have hg := getD_some i27; simp [Region.wanted, yielded, hg]), ?_⟩
      rintro _ rfl
      go_simp <;> with_reducible rfl
    refine relG_pure (i := 7) (o := ⟨some 31, _, _, _, _, _⟩) (v := ?v27) [(3, 27, 3), (6, 30, 0)] [] rfl rfl (by kernel_rfl) (by kernel_rfl) (fun t w1 hB hf hbf => ?y27) ?n27
    case y27 =>
      simp only [DepF, List.getD_cons_zero, List.getD_cons_succ] at hf
      obtain ⟨⟨_, ⟨e27, i27⟩, rfl⟩, ⟨_, ⟨e30, i30⟩, rfl⟩, _⟩ := hf
      clear hbf
      have hx := boxStays S2.out hB
      have x0 := cell_of_row _ c1 0 _ _ _ hx
      have x1 := cell_of_row _ c1 1 _ _ _ hx
      have x2 := cell_of_row _ c1 2 _ _ _ hx
      have x3 := cell_of_row _ c1 3 _ _ _ hx
      have x4 := cell_of_row _ c1 4 _ _ _ hx
      have q1i := Q1.out
      clear hx
      refine Or.inl ⟨wanted_none rfl, ?_⟩
      rintro _ rfl
      go_simp <;> with_reducible rfl
    refine relG_pure (i := 8) (o := ⟨some 32, _, _, _, _, _⟩) (v := ?v28) [(7, 31, 0)] [] rfl rfl (by kernel_rfl) (by kernel_rfl) (fun t w1 hB hf hbf => ?y28) ?n28
    case y28 =>
      simp only [DepF, List.getD_cons_zero] at hf
      obtain ⟨⟨_, ⟨e31, i31⟩, rfl⟩, _⟩ := hf
      clear hbf
      have hx := boxStays S2.out hB
      have x0 := cell_of_row _ c1 0 _ _ _ hx
      have x1 := cell_of_row _ c1 1 _ _ _ hx
      have x2 := cell_of_row _ c1 2 _ _ _ hx
      have x3 := cell_of_row _ c1 3 _ _ _ hx
      have x4 := cell_of_row _ c1 4 _ _ _ hx
      have q1i := Q1.out
      clear hx
      refine Or.inl ⟨wanted_none rfl, ?_⟩
      rintro _ rfl
      go_simp <;> with_reducible rfl
    refine relG_pure (i := 9) (o := ⟨some 33, _, _, _, _, _⟩) (v := ?v29) [(8, 32, 0)] [4] rfl rfl (by kernel_rfl) (by kernel_rfl) (fun t w1 hB hf hbf => ?y29) ?n29
    case y29 =>
      simp only [DepF, List.getD_cons_zero] at hf
      simp only [BasF] at hbf
      obtain ⟨⟨_, ⟨e32, i32⟩, rfl⟩, _⟩ := hf
      obtain ⟨⟨b4, k4⟩, _⟩ := hbf
      have hx := boxStays S2.out hB
      have x0 := cell_of_row _ c1 0 _ _ _ hx
      have x1 := cell_of_row _ c1 1 _ _ _ hx
      have x2 := cell_of_row _ c1 2 _ _ _ hx
      have x3 := cell_of_row _ c1 3 _ _ _ hx
      have x4 := cell_of_row _ c1 4 _ _ _ hx
      have q1i := Q1.out
      clear hx
      refine Or.inl ⟨(by have hg := getD_some i32; simp [Region.wanted, yielded, hg]), ?_⟩
      rintro _ rfl
      go_simp <;> with_reducible rfl
    refine relG_pure (i := 10) (o := ⟨some 34, _, _, _, _, _⟩) (v := ?v30) [(8, 32, 1)] [2] rfl rfl (by kernel_rfl) (by kernel_rfl) (fun t w1 hB hf hbf => ?y30) ?n30
    case y30 =>
      simp only [DepF, List.getD_cons_zero, List.getD_cons_succ] at hf
      simp only [BasF] at hbf
      obtain ⟨⟨_, ⟨e32, i32⟩, rfl⟩, _⟩ := hf
      obtain ⟨⟨b2, k2⟩, _⟩ := hbf
      have hx := boxStays S2.out hB
      have x0 := cell_of_row _ c1 0 _ _ _ hx
      have x1 := cell_of_row _ c1 1 _ _ _ hx
      have x2 := cell_of_row _ c1 2 _ _ _ hx
      have x3 := cell_of_row _ c1 3 _ _ _ hx
      have x4 := cell_of_row _ c1 4 _ _ _ hx
      have q1i := Q1.out
      clear hx
      refine Or.inl ⟨(by have hg := getD_some i32; simp [Region.wanted, yielded, hg]), ?_⟩
      rintro _ rfl
      go_simp <;> with_reducible rfl
    refine relG_call (i := 11) (o := ⟨some 35, _, _, _, _, _⟩) ((fun v _ => v = .bool false)) [(9, 33, 1), (10, 34, 0), (8, 32, 2)] [] rfl rfl (by kernel_rfl) (by kernel_rfl) ((fun _ _ _ h _ => h)) ?_ ?_
    · intro t w1 hB hf hbf K hK
      simp only [DepF, List.getD_cons_zero, List.getD_cons_succ] at hf
      obtain ⟨⟨_, ⟨e33, i33⟩, rfl⟩, ⟨_, ⟨e34, i34⟩, rfl⟩, ⟨_, ⟨e32, i32⟩, rfl⟩, _⟩ := hf
      clear hbf
      have hx := boxStays S2.out hB
      have x0 := cell_of_row _ c1 0 _ _ _ hx
      have x1 := cell_of_row _ c1 1 _ _ _ hx
      have x2 := cell_of_row _ c1 2 _ _ _ hx
      have x3 := cell_of_row _ c1 3 _ _ _ hx
      have x4 := cell_of_row _ c1 4 _ _ _ hx
      have q1i := Q1.out
      clear hx
      refine ⟨(by have hg := getD_some i32; simp [Region.wanted, yielded, hg]), ?_⟩
      go_simp
      refine (FIT.out w1).mono ?_
      rintro e w2 ⟨rfl, hb⟩
      exact hK.out _ w2 (rfl) hb
    refine relG_pure (i := 12) (o := ⟨some 36, _, _, _, _, _⟩) (v := ?v31) [(11, 35, 0), (8, 32, 3)] [] rfl rfl (by kernel_rfl) (by kernel_rfl) (fun t w1 hB hf hbf => ?y31) ?n31
    case y31 =>
      simp only [DepF, List.getD_cons_zero, List.getD_cons_succ] at hf
      obtain ⟨⟨_, ⟨e35, i35⟩, rfl⟩, ⟨_, ⟨e32, i32⟩, rfl⟩, _⟩ := hf
      clear hbf
      have hx := boxStays S2.out hB
      have x0 := cell_of_row _ c1 0 _ _ _ hx
      have x1 := cell_of_row _ c1 1 _ _ _ hx
      have x2 := cell_of_row _ c1 2 _ _ _ hx
      have x3 := cell_of_row _ c1 3 _ _ _ hx
      have x4 := cell_of_row _ c1 4 _ _ _ hx
      have q1i := Q1.out
      clear hx
      refine Or.inl ⟨(by have hg := getD_some i32; simp [Region.wanted, yielded, hg]), ?_⟩
      rintro _ rfl
      go_simp <;> with_reducible rfl
    refine relG_pure (i := 13) (o := ⟨some 37, _, _, _, _, _⟩) (v := ?v32) [(8, 32, 4), (12, 36, 0)] [] rfl rfl (by kernel_rfl) (by kernel_rfl) (fun t w1 hB hf hbf => ?y32) ?n32
    case y32 =>
      simp only [DepF, List.getD_cons_zero, List.getD_cons_succ] at hf
      obtain ⟨⟨_, ⟨e32, i32⟩, rfl⟩, ⟨_, ⟨e36, i36⟩, rfl⟩, _⟩ := hf
      clear hbf
      have hx := boxStays S2.out hB
      have x0 := cell_of_row _ c1 0 _ _ _ hx
      have x1 := cell_of_row _ c1 1 _ _ _ hx
      have x2 := cell_of_row _ c1 2 _ _ _ hx
      have x3 := cell_of_row _ c1 3 _ _ _ hx
      have x4 := cell_of_row _ c1 4 _ _ _ hx
      have q1i := Q1.out
      clear hx
      refine Or.inl ⟨wanted_none rfl, ?_⟩
      rintro _ rfl
      go_simp <;> with_reducible rfl
    refine relG_pure (i := 14) (o := ⟨some 38, _, _, _, _, _⟩) (v := ?v33) [(13, 37, 0)] [] rfl rfl (by kernel_rfl) (by kernel_rfl) (fun t w1 hB hf hbf => ?y33) ?n33
    case y33 =>
      simp only [DepF, List.getD_cons_zero] at hf
      obtain ⟨⟨_, ⟨e37, i37⟩, rfl⟩, _⟩ := hf
      clear hbf
      have hx := boxStays S2.out hB
      have x0 := cell_of_row _ c1 0 _ _ _ hx
      have x1 := cell_of_row _ c1 1 _ _ _ hx
      have x2 := cell_of_row _ c1 2 _ _ _ hx
      have x3 := cell_of_row _ c1 3 _ _ _ hx
      have x4 := cell_of_row _ c1 4 _ _ _ hx
      have q1i := Q1.out
      clear hx
      refine Or.inl ⟨wanted_none rfl, ?_⟩
      rintro _ rfl
      go_simp <;> with_reducible rfl
    refine relG_pure (i := 15) (o := ⟨some 39, _, _, _, _, _⟩) (v := undef) [(14, 38, 0)] [0] rfl rfl (by kernel_rfl) (by kernel_rfl) (fun t w1 hB hf hbf => ?_) ?_
    · simp only [DepF, List.getD_cons_zero] at hf
      obtain ⟨⟨_, ⟨e38, i38⟩, rfl⟩, _⟩ := hf
      exact Or.inr ⟨(by have hg := getD_some i38; simp [Region.wanted, yielded, hg]), rfl⟩
    refine relG_pure (i := 16) (o := ⟨some 40, _, _, _, _, _⟩) (v := undef) [(15, 39, 0), (14, 38, 1)] [] rfl rfl (by kernel_rfl) (by kernel_rfl) (fun t w1 hB hf hbf => ?_) ?_
    · simp only [DepF, List.getD_cons_zero, List.getD_cons_succ] at hf
      obtain ⟨⟨_, ⟨e39, i39⟩, rfl⟩, ⟨_, ⟨e38, i38⟩, rfl⟩, _⟩ := hf
      exact Or.inr ⟨(by have hg := getD_some i38; simp [Region.wanted, yielded, hg]), rfl⟩
    refine relG_pure (i := 17) (o := ⟨some 41, _, _, _, _, _⟩) (v := undef) [(14, 38, 2)] [4] rfl rfl (by kernel_rfl) (by kernel_rfl) (fun t w1 hB hf hbf => ?_) ?_
    · simp only [DepF, List.getD_cons_zero, List.getD_cons_succ] at hf
      obtain ⟨⟨_, ⟨e38, i38⟩, rfl⟩, _⟩ := hf
      exact Or.inr ⟨(by have hg := getD_some i38; simp [Region.wanted, yielded, hg]), rfl⟩
    refine relG_pure (i := 18) (o := ⟨some 42, _, _, _, _, _⟩) (v := undef) [(16, 40, 1), (17, 41, 0), (14, 38, 3)] [] rfl rfl (by kernel_rfl) (by kernel_rfl) (fun t w1 hB hf hbf => ?_) ?_
    · simp only [DepF, List.getD_cons_zero, List.getD_cons_succ] at hf
      obtain ⟨⟨_, ⟨e40, i40⟩, rfl⟩, ⟨_, ⟨e41, i41⟩, rfl⟩, ⟨_, ⟨e38, i38⟩, rfl⟩, _⟩ := hf
      exact Or.inr ⟨(by have hg := getD_some i38; simp [Region.wanted, yielded, hg]), rfl⟩
    refine relG_pure (i := 19) (o := ⟨some 43, _, _, _, _, _⟩) (v := undef) [(18, 42, 0), (14, 38, 4)] [] rfl rfl (by kernel_rfl) (by kernel_rfl) (fun t w1 hB hf hbf => ?_) ?_
    · simp only [DepF, List.getD_cons_zero, List.getD_cons_succ] at hf
      obtain ⟨⟨_, ⟨e42, i42⟩, rfl⟩, ⟨_, ⟨e38, i38⟩, rfl⟩, _⟩ := hf
      exact Or.inr ⟨(by have hg := getD_some i38; simp [Region.wanted, yielded, hg]), rfl⟩
    refine relG_pure (i := 20) (o := ⟨some 44, _, _, _, _, _⟩) (v := ?v34) [(14, 38, 5), (19, 43, 0)] [] rfl rfl (by kernel_rfl) (by kernel_rfl) (fun t w1 hB hf hbf => ?y34) ?n34
    case y34 =>
      simp only [DepF, List.getD_cons_zero, List.getD_cons_succ] at hf
      obtain ⟨⟨_, ⟨e38, i38⟩, rfl⟩, ⟨_, ⟨e43, i43⟩, rfl⟩, _⟩ := hf
      clear hbf
      have hx := boxStays S2.out hB
      have x0 := cell_of_row _ c1 0 _ _ _ hx
      have x1 := cell_of_row _ c1 1 _ _ _ hx
      have x2 := cell_of_row _ c1 2 _ _ _ hx
      have x3 := cell_of_row _ c1 3 _ _ _ hx
      have x4 := cell_of_row _ c1 4 _ _ _ hx
      have q1i := Q1.out
      clear hx
      refine Or.inl ⟨wanted_none rfl, ?_⟩
      rintro _ rfl
      go_simp <;> with_reducible rfl
    refine relG_done [(0, 24, 20), (1, 25, 19), (2, 26, 18), (3, 27, 17), (4, 28, 16), (5, 29, 15), (6, 30, 14), (7, 31, 13), (8, 32, 12), (9, 33, 11), (10, 34, 10), (11, 35, 9), (12, 36, 8), (13, 37, 7), (14, 38, 6), (15, 39, 5), (16, 40, 4), (17, 41, 3), (18, 42, 2), (19, 43, 1), (20, 44, 0)] (by kernel_rfl) rfl (by kernel_rfl) (fun f wE hB hf => ?_)
    simp only [FinF, List.getD_cons_zero, List.getD_cons_succ] at hf
    obtain ⟨⟨_, e24, rfl⟩, ⟨_, e25, rfl⟩, ⟨_, e26, rfl⟩, ⟨_, e27, rfl⟩, ⟨_, e28, rfl⟩, ⟨_, e29, rfl⟩, ⟨_, e30, rfl⟩, ⟨_, e31, rfl⟩, ⟨_, e32, rfl⟩, ⟨_, e33, rfl⟩, ⟨_, e34, rfl⟩, ⟨_, e35, rfl⟩, ⟨_, e36, rfl⟩, ⟨_, e37, rfl⟩, ⟨_, e38, rfl⟩, ⟨_, e39, rfl⟩, ⟨_, e40, rfl⟩, ⟨_, e41, rfl⟩, ⟨_, e42, rfl⟩, ⟨_, e43, rfl⟩, ⟨_, e44, rfl⟩, _⟩ := hf
    simp only [regT, List.foldl_cons, List.foldl_nil, List.setIfInBounds_toArray, List.set_cons_zero, List.set_cons_succ, e24, e25, e26, e27, e28, e29, e30, e31, e32, e33, e34, e35, e36, e37, e38, e39, e40, e41, e42, e43, e44]
    clear e24 e25 e26 e27 e28 e29 e30 e31 e32 e33 e34 e35 e36 e37 e38 e39 e40 e41 e42 e43 e44
    have hb := hB
    clear hB
    replace HC := Lib.hid (HC.out.push hb)
    clear hb
    go_wp2_with fail
    go_ret
    exact ⟨rfl, (HC.out.to w (by simp))⟩
  obtain ⟨bv, hbv⟩ : ∃ q, behindV (sortV l) s = q := ⟨_, rfl⟩
  have BEH := BEH0
  rw [hbv] at BEH
  cases bv
  case false =>
    refine relG_start (slots := [24, 25, 26, 27, 28, 29, 30, 31, 32, 33, 34, 35, 36, 37, 38, 39, 40, 41, 42, 43, 44]) (so := []) (by kernel_rfl) (by kernel_rfl) (by rfl) ?_
    refine relG_pure (i := 0) (o := ⟨some 24, _, _, _, _, _⟩) (v := ?v35) [] [0] rfl rfl (by kernel_rfl) (by kernel_rfl) (fun t w1 hB hf hbf => ?y35) ?n35
    case y35 =>
      simp only [BasF] at hbf
      clear hf
      obtain ⟨⟨b0, k0⟩, _⟩ := hbf
      have hx := boxStays S2.out hB
      have x0 := cell_of_row _ c1 0 _ _ _ hx
      have x1 := cell_of_row _ c1 1 _ _ _ hx
      have x2 := cell_of_row _ c1 2 _ _ _ hx
      have x3 := cell_of_row _ c1 3 _ _ _ hx
      have x4 := cell_of_row _ c1 4 _ _ _ hx
      have q1i := Q1.out
      clear hx
      refine Or.inl ⟨wanted_none rfl, ?_⟩
      rintro _ rfl
      go_simp <;> with_reducible rfl
    refine relG_pure (i := 1) (o := ⟨some 25, _, _, _, _, _⟩) (v := ?v36) [(0, 24, 0)] [] rfl rfl (by kernel_rfl) (by kernel_rfl) (fun t w1 hB hf hbf => ?y36) ?n36
    case y36 =>
      simp only [DepF, List.getD_cons_zero] at hf
      obtain ⟨⟨_, ⟨e24, i24⟩, rfl⟩, _⟩ := hf
      clear hbf
      have hx := boxStays S2.out hB
      have x0 := cell_of_row _ c1 0 _ _ _ hx
      have x1 := cell_of_row _ c1 1 _ _ _ hx
      have x2 := cell_of_row _ c1 2 _ _ _ hx
      have x3 := cell_of_row _ c1 3 _ _ _ hx
      have x4 := cell_of_row _ c1 4 _ _ _ hx
      have q1i := Q1.out
      clear hx
      refine Or.inl ⟨wanted_none rfl, ?_⟩
      rintro _ rfl
      go_simp <;> with_reducible rfl
    refine relG_pure (i := 2) (o := ⟨some 26, _, _, _, _, _⟩) (v := ?v37) [(1, 25, 0)] [] rfl rfl (by kernel_rfl) (by kernel_rfl) (fun t w1 hB hf hbf => ?y37) ?n37
    case y37 =>
      simp only [DepF, List.getD_cons_zero] at hf
      obtain ⟨⟨_, ⟨e25, i25⟩, rfl⟩, _⟩ := hf
      clear hbf
      have hx := boxStays S2.out hB
      have x0 := cell_of_row _ c1 0 _ _ _ hx
      have x1 := cell_of_row _ c1 1 _ _ _ hx
      have x2 := cell_of_row _ c1 2 _ _ _ hx
      have x3 := cell_of_row _ c1 3 _ _ _ hx
      have x4 := cell_of_row _ c1 4 _ _ _ hx
      have q1i := Q1.out
      clear hx
      refine Or.inl ⟨wanted_none rfl, ?_⟩
      rintro _ rfl
      go_simp <;> with_reducible rfl
    refine relG_pure (i := 3) (o := ⟨some 27, _, _, _, _, _⟩) (v := ?v38) [(2, 26, 0)] [] rfl rfl (by kernel_rfl) (by kernel_rfl) (fun t w1 hB hf hbf => ?y38) ?n38
    case y38 =>
      simp only [DepF, List.getD_cons_zero] at hf
      obtain ⟨⟨_, ⟨e26, i26⟩, rfl⟩, _⟩ := hf
      clear hbf
      have hx := boxStays S2.out hB
      have x0 := cell_of_row _ c1 0 _ _ _ hx
      have x1 := cell_of_row _ c1 1 _ _ _ hx
      have x2 := cell_of_row _ c1 2 _ _ _ hx
      have x3 := cell_of_row _ c1 3 _ _ _ hx
      have x4 := cell_of_row _ c1 4 _ _ _ hx
      have q1i := Q1.out
      clear hx
      refine Or.inl ⟨wanted_none rfl, ?_⟩
      rintro _ rfl
      go_simp <;> with_reducible rfl
    refine relG_pure (i := 4) (o := ⟨some 28, _, _, _, _, _⟩) (v := ?v39) [(3, 27, 0)] [0] rfl rfl (by kernel_rfl) (by kernel_rfl) (fun t w1 hB hf hbf => ?y39) ?n39
    case y39 =>
      simp only [DepF, List.getD_cons_zero] at hf
      simp only [BasF] at hbf
      obtain ⟨⟨_, ⟨e27, i27⟩, rfl⟩, _⟩ := hf
      obtain ⟨⟨b0, k0⟩, _⟩ := hbf
      have hx := boxStays S2.out hB
      have x0 := cell_of_row _ c1 0 _ _ _ hx
      have x1 := cell_of_row _ c1 1 _ _ _ hx
      have x2 := cell_of_row _ c1 2 _ _ _ hx
      have x3 := cell_of_row _ c1 3 _ _ _ hx
      have x4 := cell_of_row _ c1 4 _ _ _ hx
      have q1i := Q1.out
      clear hx
      refine Or.inl ⟨(by have hg := getD_some i27; simp [Region.wanted, yielded, hg]), ?_⟩
      rintro _ rfl
      go_simp <;> with_reducible rfl
    refine relG_call (i := 5) (o := ⟨some 29, _, _, _, _, _⟩) ((fun v _ => v = .bool true)) [(4, 28, 0), (3, 27, 1)] [] rfl rfl (by kernel_rfl) (by kernel_rfl) ((fun _ _ _ h _ => h)) ?_ ?_
    · intro t w1 hB hf hbf K hK
      simp only [DepF, List.getD_cons_zero, List.getD_cons_succ] at hf
      obtain ⟨⟨_, ⟨e28, i28⟩, rfl⟩, ⟨_, ⟨e27, i27⟩, rfl⟩, _⟩ := hf
      clear hbf
      have hx := boxStays S2.out hB
      have x0 := cell_of_row _ c1 0 _ _ _ hx
      have x1 := cell_of_row _ c1 1 _ _ _ hx
      have x2 := cell_of_row _ c1 2 _ _ _ hx
      have x3 := cell_of_row _ c1 3 _ _ _ hx
      have x4 := cell_of_row _ c1 4 _ _ _ hx
      have q1i := Q1.out
      clear hx
      refine ⟨(by have hg := getD_some i27; simp [Region.wanted, yielded, hg]), ?_⟩
      go_simp
      refine (MAY.out w1 hB).mono ?_
      rintro e w2 ⟨rfl, hb⟩
      exact hK.out _ w2 (rfl) hb
    refine relG_pure (i := 6) (o := ⟨some 30, _, _, _, _, _⟩) (v := ?v40) [(5, 29, 0), (3, 27, 2)] [] rfl rfl (by kernel_rfl) (by kernel_rfl) (fun t w1 hB hf hbf => ?y40) ?n40
    case y40 =>
      simp only [DepF, List.getD_cons_zero, List.getD_cons_succ] at hf
      obtain ⟨⟨_, ⟨e29, i29⟩, rfl⟩, ⟨_, ⟨e27, i27⟩, rfl⟩, _⟩ := hf
      clear hbf
      have hx := boxStays S2.out hB
      have x0 := cell_of_row _ c1 0 _ _ _ hx
      have x1 := cell_of_row _ c1 1 _ _ _ hx
      have x2 := cell_of_row _ c1 2 _ _ _ hx
      have x3 := cell_of_row _ c1 3 _ _ _ hx
      have x4 := cell_of_row _ c1 4 _ _ _ hx
      have q1i := Q1.out
      clear hx
      refine Or.inl ⟨(by have hg := getD_some i27; simp [Region.wanted, yielded, hg]), ?_⟩
      rintro _ rfl
      go_simp <;> with_reducible rfl
    refine relG_pure (i := 7) (o := ⟨some 31, _, _, _, _, _⟩) (v := ?v41) [(3, 27, 3), (6, 30, 0)] [] rfl rfl (by kernel_rfl) (by kernel_rfl) (fun t w1 hB hf hbf => ?y41) ?n41
    case y41 =>
      simp only [DepF, List.getD_cons_zero, List.getD_cons_succ] at hf
      obtain ⟨⟨_, ⟨e27, i27⟩, rfl⟩, ⟨_, ⟨e30, i30⟩, rfl⟩, _⟩ := hf
      clear hbf
      have hx := boxStays S2.out hB
      have x0 := cell_of_row _ c1 0 _ _ _ hx
      have x1 := cell_of_row _ c1 1 _ _ _ hx
      have x2 := cell_of_row _ c1 2 _ _ _ hx
      have x3 := cell_of_row _ c1 3 _ _ _ hx
      have x4 := cell_of_row _ c1 4 _ _ _ hx
      have q1i := Q1.out
      clear hx
      refine Or.inl ⟨wanted_none rfl, ?_⟩
      rintro _ rfl
      go_simp <;> with_reducible rfl
    refine relG_pure (i := 8) (o := ⟨some 32, _, _, _, _, _⟩) (v := ?v42) [(7, 31, 0)] [] rfl rfl (by kernel_rfl) (by kernel_rfl) (fun t w1 hB hf hbf => ?y42) ?n42
    case y42 =>
      simp only [DepF, List.getD_cons_zero] at hf
      obtain ⟨⟨_, ⟨e31, i31⟩, rfl⟩, _⟩ := hf
      clear hbf
      have hx := boxStays S2.out hB
      have x0 := cell_of_row _ c1 0 _ _ _ hx
      have x1 := cell_of_row _ c1 1 _ _ _ hx
      have x2 := cell_of_row _ c1 2 _ _ _ hx
      have x3 := cell_of_row _ c1 3 _ _ _ hx
      have x4 := cell_of_row _ c1 4 _ _ _ hx
      have q1i := Q1.out
      clear hx
      refine Or.inl ⟨wanted_none rfl, ?_⟩
      rintro _ rfl
      go_simp <;> with_reducible rfl
    refine relG_pure (i := 9) (o := ⟨some 33, _, _, _, _, _⟩) (v := ?v43) [(8, 32, 0)] [4] rfl rfl (by kernel_rfl) (by kernel_rfl) (fun t w1 hB hf hbf => ?y43) ?n43
    case y43 =>
      simp only [DepF, List.getD_cons_zero] at hf
      simp only [BasF] at hbf
      obtain ⟨⟨_, ⟨e32, i32⟩, rfl⟩, _⟩ := hf
      obtain ⟨⟨b4, k4⟩, _⟩ := hbf
      have hx := boxStays S2.out hB
      have x0 := cell_of_row _ c1 0 _ _ _ hx
      have x1 := cell_of_row _ c1 1 _ _ _ hx
      have x2 := cell_of_row _ c1 2 _ _ _ hx
      have x3 := cell_of_row _ c1 3 _ _ _ hx
      have x4 := cell_of_row _ c1 4 _ _ _ hx
      have q1i := Q1.out
      clear hx
      refine Or.inl ⟨(by have hg := getD_some i32; simp [Region.wanted, yielded, hg]), ?_⟩
      rintro _ rfl
      go_simp <;> with_reducible rfl
    refine relG_pure (i := 10) (o := ⟨some 34, _, _, _, _, _⟩) (v := ?v44) [(8, 32, 1)] [2] rfl rfl (by kernel_rfl) (by kernel_rfl) (fun t w1 hB hf hbf => ?y44) ?n44
    case y44 =>
      simp only [DepF, List.getD_cons_zero, List.getD_cons_succ] at hf
      simp only [BasF] at hbf
      obtain ⟨⟨_, ⟨e32, i32⟩, rfl⟩, _⟩ := hf
      obtain ⟨⟨b2, k2⟩, _⟩ := hbf
      have hx := boxStays S2.out hB
      have x0 := cell_of_row _ c1 0 _ _ _ hx
      have x1 := cell_of_row _ c1 1 _ _ _ hx
      have x2 := cell_of_row _ c1 2 _ _ _ hx
      have x3 := cell_of_row _ c1 3 _ _ _ hx
      have x4 := cell_of_row _ c1 4 _ _ _ hx
      have q1i := Q1.out
      clear hx
      refine Or.inl ⟨(by have hg := getD_some i32; simp [Region.wanted, yielded, hg]), ?_⟩
      rintro _ rfl
      go_simp <;> with_reducible rfl
    refine relG_call (i := 11) (o := ⟨some 35, _, _, _, _, _⟩) ((fun v _ => v = .bool true)) [(9, 33, 1), (10, 34, 0), (8, 32, 2)] [] rfl rfl (by kernel_rfl) (by kernel_rfl) ((fun _ _ _ h _ => h)) ?_ ?_
    · intro t w1 hB hf hbf K hK
      simp only [DepF, List.getD_cons_zero, List.getD_cons_succ] at hf
      obtain ⟨⟨_, ⟨e33, i33⟩, rfl⟩, ⟨_, ⟨e34, i34⟩, rfl⟩, ⟨_, ⟨e32, i32⟩, rfl⟩, _⟩ := hf
      clear hbf
      have hx := boxStays S2.out hB
      have x0 := cell_of_row _ c1 0 _ _ _ hx
      have x1 := cell_of_row _ c1 1 _ _ _ hx
      have x2 := cell_of_row _ c1 2 _ _ _ hx
      have x3 := cell_of_row _ c1 3 _ _ _ hx
      have x4 := cell_of_row _ c1 4 _ _ _ hx
      have q1i := Q1.out
      clear hx
      refine ⟨(by have hg := getD_some i32; simp [Region.wanted, yielded, hg]), ?_⟩
      go_simp
      refine (FIT.out w1).mono ?_
      rintro e w2 ⟨rfl, hb⟩
      exact hK.out _ w2 (rfl) hb
    refine relG_pure (i := 12) (o := ⟨some 36, _, _, _, _, _⟩) (v := ?v45) [(11, 35, 0), (8, 32, 3)] [] rfl rfl (by kernel_rfl) (by kernel_rfl) (fun t w1 hB hf hbf => ?y45) ?n45
    case y45 =>
      simp only [DepF, List.getD_cons_zero, List.getD_cons_succ] at hf
      obtain ⟨⟨_, ⟨e35, i35⟩, rfl⟩, ⟨_, ⟨e32, i32⟩, rfl⟩, _⟩ := hf
      clear hbf
      have hx := boxStays S2.out hB
      have x0 := cell_of_row _ c1 0 _ _ _ hx
      have x1 := cell_of_row _ c1 1 _ _ _ hx
      have x2 := cell_of_row _ c1 2 _ _ _ hx
      have x3 := cell_of_row _ c1 3 _ _ _ hx
      have x4 := cell_of_row _ c1 4 _ _ _ hx
      have q1i := Q1.out
      clear hx
      refine Or.inl ⟨(by have hg := getD_some i32; simp [Region.wanted, yielded, hg]), ?_⟩
      rintro _ rfl
      go_simp <;> with_reducible rfl
    refine relG_pure (i := 13) (o := ⟨some 37, _, _, _, _, _⟩) (v := ?v46) [(8, 32, 4), (12, 36, 0)] [] rfl rfl (by kernel_rfl) (by kernel_rfl) (fun t w1 hB hf hbf => ?y46) ?n46
    case y46 =>
      simp only [DepF, List.getD_cons_zero, List.getD_cons_succ] at hf
      obtain ⟨⟨_, ⟨e32, i32⟩, rfl⟩, ⟨_, ⟨e36, i36⟩, rfl⟩, _⟩ := hf
      clear hbf
      have hx := boxStays S2.out hB
      have x0 := cell_of_row _ c1 0 _ _ _ hx
      have x1 := cell_of_row _ c1 1 _ _ _ hx
      have x2 := cell_of_row _ c1 2 _ _ _ hx
      have x3 := cell_of_row _ c1 3 _ _ _ hx
      have x4 := cell_of_row _ c1 4 _ _ _ hx
      have q1i := Q1.out
      clear hx
      refine Or.inl ⟨wanted_none rfl, ?_⟩
      rintro _ rfl
      go_simp <;> with_reducible rfl
    refine relG_pure (i := 14) (o := ⟨some 38, _, _, _, _, _⟩) (v := ?v47) [(13, 37, 0)] [] rfl rfl (by kernel_rfl) (by kernel_rfl) (fun t w1 hB hf hbf => ?y47) ?n47
    case y47 =>
      simp only [DepF, List.getD_cons_zero] at hf
      obtain ⟨⟨_, ⟨e37, i37⟩, rfl⟩, _⟩ := hf
      clear hbf
      have hx := boxStays S2.out hB
      have x0 := cell_of_row _ c1 0 _ _ _ hx
      have x1 := cell_of_row _ c1 1 _ _ _ hx
      have x2 := cell_of_row _ c1 2 _ _ _ hx
      have x3 := cell_of_row _ c1 3 _ _ _ hx
      have x4 := cell_of_row _ c1 4 _ _ _ hx
      have q1i := Q1.out
      clear hx
      refine Or.inl ⟨wanted_none rfl, ?_⟩
      rintro _ rfl
      go_simp <;> with_reducible rfl
    refine relG_pure (i := 15) (o := ⟨some 39, _, _, _, _, _⟩) (v := ?v48) [(14, 38, 0)] [0] rfl rfl (by kernel_rfl) (by kernel_rfl) (fun t w1 hB hf hbf => ?y48) ?n48
    case y48 =>
      simp only [DepF, List.getD_cons_zero] at hf
      simp only [BasF] at hbf
      obtain ⟨⟨_, ⟨e38, i38⟩, rfl⟩, _⟩ := hf
      obtain ⟨⟨b0, k0⟩, _⟩ := hbf
      have hx := boxStays S2.out hB
      have x0 := cell_of_row _ c1 0 _ _ _ hx
      have x1 := cell_of_row _ c1 1 _ _ _ hx
      have x2 := cell_of_row _ c1 2 _ _ _ hx
      have x3 := cell_of_row _ c1 3 _ _ _ hx
      have x4 := cell_of_row _ c1 4 _ _ _ hx
      have q1i := Q1.out
      clear hx
      refine Or.inl ⟨(by have hg := getD_some i38; simp [Region.wanted, yielded, hg]), ?_⟩
      rintro _ rfl
      go_simp <;> with_reducible rfl
    refine relG_call (i := 16) (o := ⟨some 40, _, _, _, _, _⟩) ((fun v w' => ∃ a c, v = .slice a n c ∧ CellsAt w' a (elsV (sortV l)))) [(15, 39, 0), (14, 38, 1)] [] rfl rfl (by kernel_rfl) (by kernel_rfl) ((fun v w' w'' h hb => by obtain ⟨a, c, e1, e2⟩ := h; exact ⟨a, c, e1, e2.below hb rfl⟩)) ?_ ?_
    · intro t w1 hB hf hbf K hK
      simp only [DepF, List.getD_cons_zero, List.getD_cons_succ] at hf
      obtain ⟨⟨_, ⟨e39, i39⟩, rfl⟩, ⟨_, ⟨e38, i38⟩, rfl⟩, _⟩ := hf
      clear hbf
      have hx := boxStays S2.out hB
      have x0 := cell_of_row _ c1 0 _ _ _ hx
      have x1 := cell_of_row _ c1 1 _ _ _ hx
      have x2 := cell_of_row _ c1 2 _ _ _ hx
      have x3 := cell_of_row _ c1 3 _ _ _ hx
      have x4 := cell_of_row _ c1 4 _ _ _ hx
      have q1i := Q1.out
      clear hx
      refine ⟨(by have hg := getD_some i38; simp [Region.wanted, yielded, hg]), ?_⟩
      go_simp
      refine (SRT.out w1 hB).mono ?_
      rintro e w2 ⟨a, c, rfl, hc, hb⟩
      exact hK.out _ w2 (⟨a, c, rfl, hc⟩) hb
    refine relG_pure (i := 17) (o := ⟨some 41, _, _, _, _, _⟩) (v := ?v49) [(14, 38, 2)] [4] rfl rfl (by kernel_rfl) (by kernel_rfl) (fun t w1 hB hf hbf => ?y49) ?n49
    case y49 =>
      simp only [DepF, List.getD_cons_zero, List.getD_cons_succ] at hf
      simp only [BasF] at hbf
      obtain ⟨⟨_, ⟨e38, i38⟩, rfl⟩, _⟩ := hf
      obtain ⟨⟨b4, k4⟩, _⟩ := hbf
      have hx := boxStays S2.out hB
      have x0 := cell_of_row _ c1 0 _ _ _ hx
      have x1 := cell_of_row _ c1 1 _ _ _ hx
      have x2 := cell_of_row _ c1 2 _ _ _ hx
      have x3 := cell_of_row _ c1 3 _ _ _ hx
      have x4 := cell_of_row _ c1 4 _ _ _ hx
      have q1i := Q1.out
      clear hx
      refine Or.inl ⟨(by have hg := getD_some i38; simp [Region.wanted, yielded, hg]), ?_⟩
      rintro _ rfl
      go_simp <;> with_reducible rfl
    refine relG_call (i := 18) (o := ⟨some 42, _, _, _, _, _⟩) ((fun v _ => v = .bool false)) [(16, 40, 1), (17, 41, 0), (14, 38, 3)] [] rfl rfl (by kernel_rfl) (by kernel_rfl) ((fun _ _ _ h _ => h)) ?_ ?_
    · intro t w1 hB hf hbf K hK
      simp only [DepF, List.getD_cons_zero, List.getD_cons_succ] at hf
      obtain ⟨⟨_, ⟨e40, i40⟩, ⟨a16, c16, rfl, hc16⟩⟩, ⟨_, ⟨e41, i41⟩, rfl⟩, ⟨_, ⟨e38, i38⟩, rfl⟩, _⟩ := hf
      clear hbf
      have hx := boxStays S2.out hB
      have x0 := cell_of_row _ c1 0 _ _ _ hx
      have x1 := cell_of_row _ c1 1 _ _ _ hx
      have x2 := cell_of_row _ c1 2 _ _ _ hx
      have x3 := cell_of_row _ c1 3 _ _ _ hx
      have x4 := cell_of_row _ c1 4 _ _ _ hx
      have q1i := Q1.out
      clear hx
      refine ⟨(by have hg := getD_some i38; simp [Region.wanted, yielded, hg]), ?_⟩
      go_simp
      refine (BEH.out w1 _ _ hc16).mono ?_
      rintro e w2 ⟨rfl, hb⟩
      exact hK.out _ w2 (rfl) hb
    refine relG_pure (i := 19) (o := ⟨some 43, _, _, _, _, _⟩) (v := ?v50) [(18, 42, 0), (14, 38, 4)] [] rfl rfl (by kernel_rfl) (by kernel_rfl) (fun t w1 hB hf hbf => ?y50) ?n50
    case y50 =>
      simp only [DepF, List.getD_cons_zero, List.getD_cons_succ] at hf
      obtain ⟨⟨_, ⟨e42, i42⟩, rfl⟩, ⟨_, ⟨e38, i38⟩, rfl⟩, _⟩ := hf
      clear hbf
      have hx := boxStays S2.out hB
      have x0 := cell_of_row _ c1 0 _ _ _ hx
      have x1 := cell_of_row _ c1 1 _ _ _ hx
      have x2 := cell_of_row _ c1 2 _ _ _ hx
      have x3 := cell_of_row _ c1 3 _ _ _ hx
      have x4 := cell_of_row _ c1 4 _ _ _ hx
      have q1i := Q1.out
      clear hx
      refine Or.inl ⟨(by have hg := getD_some i38; simp [Region.wanted, yielded, hg]), ?_⟩
      rintro _ rfl
      go_simp <;> with_reducible rfl
    refine relG_pure (i := 20) (o := ⟨some 44, _, _, _, _, _⟩) (v := ?v51) [(14, 38, 5), (19, 43, 0)] [] rfl rfl (by kernel_rfl) (by kernel_rfl) (fun t w1 hB hf hbf => ?y51) ?n51
    case y51 =>
      simp only [DepF, List.getD_cons_zero, List.getD_cons_succ] at hf
      obtain ⟨⟨_, ⟨e38, i38⟩, rfl⟩, ⟨_, ⟨e43, i43⟩, rfl⟩, _⟩ := hf
      clear hbf
      have hx := boxStays S2.out hB
      have x0 := cell_of_row _ c1 0 _ _ _ hx
      have x1 := cell_of_row _ c1 1 _ _ _ hx
      have x2 := cell_of_row _ c1 2 _ _ _ hx
      have x3 := cell_of_row _ c1 3 _ _ _ hx
      have x4 := cell_of_row _ c1 4 _ _ _ hx
      have q1i := Q1.out
      clear hx
      refine Or.inl ⟨wanted_none rfl, ?_⟩
      rintro _ rfl
      go_simp <;> with_reducible rfl
    refine relG_done [(0, 24, 20), (1, 25, 19), (2, 26, 18), (3, 27, 17), (4, 28, 16), (5, 29, 15), (6, 30, 14), (7, 31, 13), (8, 32, 12), (9, 33, 11), (10, 34, 10), (11, 35, 9), (12, 36, 8), (13, 37, 7), (14, 38, 6), (15, 39, 5), (16, 40, 4), (17, 41, 3), (18, 42, 2), (19, 43, 1), (20, 44, 0)] (by kernel_rfl) rfl (by kernel_rfl) (fun f wE hB hf => ?_)
    simp only [FinF, List.getD_cons_zero, List.getD_cons_succ] at hf
    obtain ⟨⟨_, e24, rfl⟩, ⟨_, e25, rfl⟩, ⟨_, e26, rfl⟩, ⟨_, e27, rfl⟩, ⟨_, e28, rfl⟩, ⟨_, e29, rfl⟩, ⟨_, e30, rfl⟩, ⟨_, e31, rfl⟩, ⟨_, e32, rfl⟩, ⟨_, e33, rfl⟩, ⟨_, e34, rfl⟩, ⟨_, e35, rfl⟩, ⟨_, e36, rfl⟩, ⟨_, e37, rfl⟩, ⟨_, e38, rfl⟩, ⟨_, e39, rfl⟩, ⟨_, e40, ⟨a16, c16, rfl, hc16⟩⟩, ⟨_, e41, rfl⟩, ⟨_, e42, rfl⟩, ⟨_, e43, rfl⟩, ⟨_, e44, rfl⟩, _⟩ := hf
    simp only [regT, List.foldl_cons, List.foldl_nil, List.setIfInBounds_toArray, List.set_cons_zero, List.set_cons_succ, e24, e25, e26, e27, e28, e29, e30, e31, e32, e33, e34, e35, e36, e37, e38, e39, e40, e41, e42, e43, e44]
    clear e24 e25 e26 e27 e28 e29 e30 e31 e32 e33 e34 e35 e36 e37 e38 e39 e40 e41 e42 e43 e44
    have hb := hB
    clear hB
    replace HC := Lib.hid (HC.out.push hb)
    clear hb
    go_wp2_with fail
    go_ret
    exact ⟨rfl, (HC.out.to w (by simp))⟩
  refine relG_start (slots := [24, 25, 26, 27, 28, 29, 30, 31, 32, 33, 34, 35, 36, 37, 38, 39, 40, 41, 42, 43, 44]) (so := []) (by kernel_rfl) (by kernel_rfl) (by rfl) ?_
  refine relG_pure (i := 0) (o := ⟨some 24, _, _, _, _, _⟩) (v := ?v52) [] [0] rfl rfl (by kernel_rfl) (by kernel_rfl) (fun t w1 hB hf hbf => ?y52) ?n52
  case y52 =>
    simp only [BasF] at hbf
    clear hf
    obtain ⟨⟨b0, k0⟩, _⟩ := hbf
    have hx := boxStays S2.out hB
    have x0 := cell_of_row _ c1 0 _ _ _ hx
    have x1 := cell_of_row _ c1 1 _ _ _ hx
    have x2 := cell_of_row _ c1 2 _ _ _ hx
    have x3 := cell_of_row _ c1 3 _ _ _ hx
    have x4 := cell_of_row _ c1 4 _ _ _ hx
    have q1i := Q1.out
    clear hx
    refine Or.inl ⟨wanted_none rfl, ?_⟩
    rintro _ rfl
    go_simp <;> with_reducible rfl
  refine relG_pure (i := 1) (o := ⟨some 25, _, _, _, _, _⟩) (v := ?v53) [(0, 24, 0)] [] rfl rfl (by kernel_rfl) (by kernel_rfl) (fun t w1 hB hf hbf => ?y53) ?n53
  case y53 =>
    simp only [DepF, List.getD_cons_zero] at hf
    obtain ⟨⟨_, ⟨e24, i24⟩, rfl⟩, _⟩ := hf
    clear hbf
    have hx := boxStays S2.out hB
    have x0 := cell_of_row _ c1 0 _ _ _ hx
    have x1 := cell_of_row _ c1 1 _ _ _ hx
    have x2 := cell_of_row _ c1 2 _ _ _ hx
    have x3 := cell_of_row _ c1 3 _ _ _ hx
    have x4 := cell_of_row _ c1 4 _ _ _ hx
    have q1i := Q1.out
    clear hx
    refine Or.inl ⟨wanted_none rfl, ?_⟩
    rintro _ rfl
    go_simp <;> with_reducible rfl
  refine relG_pure (i := 2) (o := ⟨some 26, _, _, _, _, _⟩) (v := ?v54) [(1, 25, 0)] [] rfl rfl (by kernel_rfl) (by kernel_rfl) (fun t w1 hB hf hbf => ?y54) ?n54
  case y54 =>
    simp only [DepF, List.getD_cons_zero] at hf
    obtain ⟨⟨_, ⟨e25, i25⟩, rfl⟩, _⟩ := hf
    clear hbf
    have hx := boxStays S2.out hB
    have x0 := cell_of_row _ c1 0 _ _ _ hx
    have x1 := cell_of_row _ c1 1 _ _ _ hx
    have x2 := cell_of_row _ c1 2 _ _ _ hx
    have x3 := cell_of_row _ c1 3 _ _ _ hx
    have x4 := cell_of_row _ c1 4 _ _ _ hx
    have q1i := Q1.out
    clear hx
    refine Or.inl ⟨wanted_none rfl, ?_⟩
    rintro _ rfl
    go_simp <;> with_reducible rfl
  refine relG_pure (i := 3) (o := ⟨some 27, _, _, _, _, _⟩) (v := ?v55) [(2, 26, 0)] [] rfl rfl (by kernel_rfl) (by kernel_rfl) (fun t w1 hB hf hbf => ?y55) ?n55
  case y55 =>
    simp only [DepF, List.getD_cons_zero] at hf
    obtain ⟨⟨_, ⟨e26, i26⟩, rfl⟩, _⟩ := hf
    clear hbf
    have hx := boxStays S2.out hB
    have x0 := cell_of_row _ c1 0 _ _ _ hx
    have x1 := cell_of_row _ c1 1 _ _ _ hx
    have x2 := cell_of_row _ c1 2 _ _ _ hx
    have x3 := cell_of_row _ c1 3 _ _ _ hx
    have x4 := cell_of_row _ c1 4 _ _ _ hx
    have q1i := Q1.out
    clear hx
    refine Or.inl ⟨wanted_none rfl, ?_⟩
    rintro _ rfl
    go_simp <;> with_reducible rfl
  refine relG_pure (i := 4) (o := ⟨some 28, _, _, _, _, _⟩) (v := ?v56) [(3, 27, 0)] [0] rfl rfl (by kernel_rfl) (by kernel_rfl) (fun t w1 hB hf hbf => ?y56) ?n56
  case y56 =>
    simp only [DepF, List.getD_cons_zero] at hf
    simp only [BasF] at hbf
    obtain ⟨⟨_, ⟨e27, i27⟩, rfl⟩, _⟩ := hf
    obtain ⟨⟨b0, k0⟩, _⟩ := hbf
    have hx := boxStays S2.out hB
    have x0 := cell_of_row _ c1 0 _ _ _ hx
    have x1 := cell_of_row _ c1 1 _ _ _ hx
    have x2 := cell_of_row _ c1 2 _ _ _ hx
    have x3 := cell_of_row _ c1 3 _ _ _ hx
    have x4 := cell_of_row _ c1 4 _ _ _ hx
    have q1i := Q1.out
    clear hx
    refine Or.inl ⟨(by have hg := getD_some i27; simp [Region.wanted, yielded, hg]), ?_⟩
    rintro _ rfl
    go_simp <;> with_reducible rfl
  refine relG_call (i := 5) (o := ⟨some 29, _, _, _, _, _⟩) ((fun v _ => v = .bool true)) [(4, 28, 0), (3, 27, 1)] [] rfl rfl (by kernel_rfl) (by kernel_rfl) ((fun _ _ _ h _ => h)) ?_ ?_
  · intro t w1 hB hf hbf K hK
    simp only [DepF, List.getD_cons_zero, List.getD_cons_succ] at hf
    obtain ⟨⟨_, ⟨e28, i28⟩, rfl⟩, ⟨_, ⟨e27, i27⟩, rfl⟩, _⟩ := hf
    clear hbf
    have hx := boxStays S2.out hB
    have x0 := cell_of_row _ c1 0 _ _ _ hx
    have x1 := cell_of_row _ c1 1 _ _ _ hx
    have x2 := cell_of_row _ c1 2 _ _ _ hx
    have x3 := cell_of_row _ c1 3 _ _ _ hx
    have x4 := cell_of_row _ c1 4 _ _ _ hx
    have q1i := Q1.out
    clear hx
    refine ⟨(by have hg := getD_some i27; simp [Region.wanted, yielded, hg]), ?_⟩
    go_simp
    refine (MAY.out w1 hB).mono ?_
    rintro e w2 ⟨rfl, hb⟩
    exact hK.out _ w2 (rfl) hb
  refine relG_pure (i := 6) (o := ⟨some 30, _, _, _, _, _⟩) (v := ?v57) [(5, 29, 0), (3, 27, 2)] [] rfl rfl (by kernel_rfl) (by kernel_rfl) (fun t w1 hB hf hbf => ?y57) ?n57
  case y57 =>
    simp only [DepF, List.getD_cons_zero, List.getD_cons_succ] at hf
    obtain ⟨⟨_, ⟨e29, i29⟩, rfl⟩, ⟨_, ⟨e27, i27⟩, rfl⟩, _⟩ := hf
    clear hbf
    have hx := boxStays S2.out hB
    have x0 := cell_of_row _ c1 0 _ _ _ hx
    have x1 := cell_of_row _ c1 1 _ _ _ hx
    have x2 := cell_of_row _ c1 2 _ _ _ hx
    have x3 := cell_of_row _ c1 3 _ _ _ hx
    have x4 := cell_of_row _ c1 4 _ _ _ hx
    have q1i := Q1.out
    clear hx
    refine Or.inl ⟨(by have hg := getD_some i27; simp [Region.wanted, yielded, hg]), ?_⟩
    rintro _ rfl
    go_simp <;> with_reducible rfl
  refine relG_pure (i := 7) (o := ⟨some 31, _, _, _, _, _⟩) (v := ?v58) [(3, 27, 3), (6, 30, 0)] [] rfl rfl (by kernel_rfl) (by kernel_rfl) (fun t w1 hB hf hbf => ?y58) ?n58
  case y58 =>
    simp only [DepF, List.getD_cons_zero, List.getD_cons_succ] at hf
    obtain ⟨⟨_, ⟨e27, i27⟩, rfl⟩, ⟨_, ⟨e30, i30⟩, rfl⟩, _⟩ := hf
    clear hbf
    have hx := boxStays S2.out hB
    have x0 := cell_of_row _ c1 0 _ _ _ hx
    have x1 := cell_of_row _ c1 1 _ _ _ hx
    have x2 := cell_of_row _ c1 2 _ _ _ hx
    have x3 := cell_of_row _ c1 3 _ _ _ hx
    have x4 := cell_of_row _ c1 4 _ _ _ hx
    have q1i := Q1.out
    clear hx
    refine Or.inl ⟨wanted_none rfl, ?_⟩
    rintro _ rfl
    go_simp <;> with_reducible rfl
  refine relG_pure (i := 8) (o := ⟨some 32, _, _, _, _, _⟩) (v := ?v59) [(7, 31, 0)] [] rfl rfl (by kernel_rfl) (by kernel_rfl) (fun t w1 hB hf hbf => ?y59) ?n59
  case y59 =>
    simp only [DepF, List.getD_cons_zero] at hf
    obtain ⟨⟨_, ⟨e31, i31⟩, rfl⟩, _⟩ := hf
    clear hbf
    have hx := boxStays S2.out hB
    have x0 := cell_of_row _ c1 0 _ _ _ hx
    have x1 := cell_of_row _ c1 1 _ _ _ hx
    have x2 := cell_of_row _ c1 2 _ _ _ hx
    have x3 := cell_of_row _ c1 3 _ _ _ hx
    have x4 := cell_of_row _ c1 4 _ _ _ hx
    have q1i := Q1.out
    clear hx
    refine Or.inl ⟨wanted_none rfl, ?_⟩
    rintro _ rfl
    go_simp <;> with_reducible rfl
  refine relG_pure (i := 9) (o := ⟨some 33, _, _, _, _, _⟩) (v := ?v60) [(8, 32, 0)] [4] rfl rfl (by kernel_rfl) (by kernel_rfl) (fun t w1 hB hf hbf => ?y60) ?n60
  case y60 =>
    simp only [DepF, List.getD_cons_zero] at hf
    simp only [BasF] at hbf
    obtain ⟨⟨_, ⟨e32, i32⟩, rfl⟩, _⟩ := hf
    obtain ⟨⟨b4, k4⟩, _⟩ := hbf
    have hx := boxStays S2.out hB
    have x0 := cell_of_row _ c1 0 _ _ _ hx
    have x1 := cell_of_row _ c1 1 _ _ _ hx
    have x2 := cell_of_row _ c1 2 _ _ _ hx
    have x3 := cell_of_row _ c1 3 _ _ _ hx
    have x4 := cell_of_row _ c1 4 _ _ _ hx
    have q1i := Q1.out
    clear hx
    refine Or.inl ⟨(by have hg := getD_some i32; simp [Region.wanted, yielded, hg]), ?_⟩
    rintro _ rfl
    go_simp <;> with_reducible rfl
  refine relG_pure (i := 10) (o := ⟨some 34, _, _, _, _, _⟩) (v := ?v61) [(8, 32, 1)] [2] rfl rfl (by kernel_rfl) (by kernel_rfl) (fun t w1 hB hf hbf => ?y61) ?n61
  case y61 =>
    simp only [DepF, List.getD_cons_zero, List.getD_cons_succ] at hf
    simp only [BasF] at hbf
    obtain ⟨⟨_, ⟨e32, i32⟩, rfl⟩, _⟩ := hf
    obtain ⟨⟨b2, k2⟩, _⟩ := hbf
    have hx := boxStays S2.out hB
    have x0 := cell_of_row _ c1 0 _ _ _ hx
    have x1 := cell_of_row _ c1 1 _ _ _ hx
    have x2 := cell_of_row _ c1 2 _ _ _ hx
    have x3 := cell_of_row _ c1 3 _ _ _ hx
    have x4 := cell_of_row _ c1 4 _ _ _ hx
    have q1i := Q1.out
    clear hx
    refine Or.inl ⟨(by have hg := getD_some i32; simp [Region.wanted, yielded, hg]), ?_⟩
    rintro _ rfl
    go_simp <;> with_reducible rfl
  refine relG_call (i := 11) (o := ⟨some 35, _, _, _, _, _⟩) ((fun v _ => v = .bool true)) [(9, 33, 1), (10, 34, 0), (8, 32, 2)] [] rfl rfl (by kernel_rfl) (by kernel_rfl) ((fun _ _ _ h _ => h)) ?_ ?_
  · intro t w1 hB hf hbf K hK
    simp only [DepF, List.getD_cons_zero, List.getD_cons_succ] at hf
    obtain ⟨⟨_, ⟨e33, i33⟩, rfl⟩, ⟨_, ⟨e34, i34⟩, rfl⟩, ⟨_, ⟨e32, i32⟩, rfl⟩, _⟩ := hf
    clear hbf
    have hx := boxStays S2.out hB
    have x0 := cell_of_row _ c1 0 _ _ _ hx
    have x1 := cell_of_row _ c1 1 _ _ _ hx
    have x2 := cell_of_row _ c1 2 _ _ _ hx
    have x3 := cell_of_row _ c1 3 _ _ _ hx
    have x4 := cell_of_row _ c1 4 _ _ _ hx
    have q1i := Q1.out
    clear hx
    refine ⟨(by have hg := getD_some i32; simp [Region.wanted, yielded, hg]), ?_⟩
    go_simp
    refine (FIT.out w1).mono ?_
    rintro e w2 ⟨rfl, hb⟩
    exact hK.out _ w2 (rfl) hb
  refine relG_pure (i := 12) (o := ⟨some 36, _, _, _, _, _⟩) (v := ?v62) [(11, 35, 0), (8, 32, 3)] [] rfl rfl (by kernel_rfl) (by kernel_rfl) (fun t w1 hB hf hbf => ?y62) ?n62
  case y62 =>
    simp only [DepF, List.getD_cons_zero, List.getD_cons_succ] at hf
    obtain ⟨⟨_, ⟨e35, i35⟩, rfl⟩, ⟨_, ⟨e32, i32⟩, rfl⟩, _⟩ := hf
    clear hbf
    have hx := boxStays S2.out hB
    have x0 := cell_of_row _ c1 0 _ _ _ hx
    have x1 := cell_of_row _ c1 1 _ _ _ hx
    have x2 := cell_of_row _ c1 2 _ _ _ hx
    have x3 := cell_of_row _ c1 3 _ _ _ hx
    have x4 := cell_of_row _ c1 4 _ _ _ hx
    have q1i := Q1.out
    clear hx
    refine Or.inl ⟨(by have hg := getD_some i32; simp [Region.wanted, yielded, hg]), ?_⟩
    rintro _ rfl
    go_simp <;> with_reducible rfl
  refine relG_pure (i := 13) (o := ⟨some 37, _, _, _, _, _⟩) (v := ?v63) [(8, 32, 4), (12, 36, 0)] [] rfl rfl (by kernel_rfl) (by kernel_rfl) (fun t w1 hB hf hbf => ?y63) ?n63
  case y63 =>
    simp only [DepF, List.getD_cons_zero, List.getD_cons_succ] at hf
    obtain ⟨⟨_, ⟨e32, i32⟩, rfl⟩, ⟨_, ⟨e36, i36⟩, rfl⟩, _⟩ := hf
    clear hbf
    have hx := boxStays S2.out hB
    have x0 := cell_of_row _ c1 0 _ _ _ hx
    have x1 := cell_of_row _ c1 1 _ _ _ hx
    have x2 := cell_of_row _ c1 2 _ _ _ hx
    have x3 := cell_of_row _ c1 3 _ _ _ hx
    have x4 := cell_of_row _ c1 4 _ _ _ hx
    have q1i := Q1.out
    clear hx
    refine Or.inl ⟨wanted_none rfl, ?_⟩
    rintro _ rfl
    go_simp <;> with_reducible rfl
  refine relG_pure (i := 14) (o := ⟨some 38, _, _, _, _, _⟩) (v := ?v64) [(13, 37, 0)] [] rfl rfl (by kernel_rfl) (by kernel_rfl) (fun t w1 hB hf hbf => ?y64) ?n64
  case y64 =>
    simp only [DepF, List.getD_cons_zero] at hf
    obtain ⟨⟨_, ⟨e37, i37⟩, rfl⟩, _⟩ := hf
    clear hbf
    have hx := boxStays S2.out hB
    have x0 := cell_of_row _ c1 0 _ _ _ hx
    have x1 := cell_of_row _ c1 1 _ _ _ hx
    have x2 := cell_of_row _ c1 2 _ _ _ hx
    have x3 := cell_of_row _ c1 3 _ _ _ hx
    have x4 := cell_of_row _ c1 4 _ _ _ hx
    have q1i := Q1.out
    clear hx
    refine Or.inl ⟨wanted_none rfl, ?_⟩
    rintro _ rfl
    go_simp <;> with_reducible rfl
  refine relG_pure (i := 15) (o := ⟨some 39, _, _, _, _, _⟩) (v := ?v65) [(14, 38, 0)] [0] rfl rfl (by kernel_rfl) (by kernel_rfl) (fun t w1 hB hf hbf => ?y65) ?n65
  case y65 =>
    simp only [DepF, List.getD_cons_zero] at hf
    simp only [BasF] at hbf
    obtain ⟨⟨_, ⟨e38, i38⟩, rfl⟩, _⟩ := hf
    obtain ⟨⟨b0, k0⟩, _⟩ := hbf
    have hx := boxStays S2.out hB
    have x0 := cell_of_row _ c1 0 _ _ _ hx
    have x1 := cell_of_row _ c1 1 _ _ _ hx
    have x2 := cell_of_row _ c1 2 _ _ _ hx
    have x3 := cell_of_row _ c1 3 _ _ _ hx
    have x4 := cell_of_row _ c1 4 _ _ _ hx
    have q1i := Q1.out
    clear hx
    refine Or.inl ⟨(by have hg := getD_some i38; simp [Region.wanted, yielded, hg]), ?_⟩
    rintro _ rfl
    go_simp <;> with_reducible rfl
  refine relG_call (i := 16) (o := ⟨some 40, _, _, _, _, _⟩) ((fun v w' => ∃ a c, v = .slice a n c ∧ CellsAt w' a (elsV (sortV l)))) [(15, 39, 0), (14, 38, 1)] [] rfl rfl (by kernel_rfl) (by kernel_rfl) ((fun v w' w'' h hb => by obtain ⟨a, c, e1, e2⟩ := h; exact ⟨a, c, e1, e2.below hb rfl⟩)) ?_ ?_
  · intro t w1 hB hf hbf K hK
    simp only [DepF, List.getD_cons_zero, List.getD_cons_succ] at hf
    obtain ⟨⟨_, ⟨e39, i39⟩, rfl⟩, ⟨_, ⟨e38, i38⟩, rfl⟩, _⟩ := hf
    clear hbf
    have hx := boxStays S2.out hB
    have x0 := cell_of_row _ c1 0 _ _ _ hx
    have x1 := cell_of_row _ c1 1 _ _ _ hx
    have x2 := cell_of_row _ c1 2 _ _ _ hx
    have x3 := cell_of_row _ c1 3 _ _ _ hx
    have x4 := cell_of_row _ c1 4 _ _ _ hx
    have q1i := Q1.out
    clear hx
    refine ⟨(by have hg := getD_some i38; simp [Region.wanted, yielded, hg]), ?_⟩
    go_simp
    refine (SRT.out w1 hB).mono ?_
    rintro e w2 ⟨a, c, rfl, hc, hb⟩
    exact hK.out _ w2 (⟨a, c, rfl, hc⟩) hb
  refine relG_pure (i := 17) (o := ⟨some 41, _, _, _, _, _⟩) (v := ?v66) [(14, 38, 2)] [4] rfl rfl (by kernel_rfl) (by kernel_rfl) (fun t w1 hB hf hbf => ?y66) ?n66
  case y66 =>
    simp only [DepF, List.getD_cons_zero, List.getD_cons_succ] at hf
    simp only [BasF] at hbf
    obtain ⟨⟨_, ⟨e38, i38⟩, rfl⟩, _⟩ := hf
    obtain ⟨⟨b4, k4⟩, _⟩ := hbf
    have hx := boxStays S2.out hB
    have x0 := cell_of_row _ c1 0 _ _ _ hx
    have x1 := cell_of_row _ c1 1 _ _ _ hx
    have x2 := cell_of_row _ c1 2 _ _ _ hx
    have x3 := cell_of_row _ c1 3 _ _ _ hx
    have x4 := cell_of_row _ c1 4 _ _ _ hx
    have q1i := Q1.out
    clear hx
    refine Or.inl ⟨(by have hg := getD_some i38; simp [Region.wanted, yielded, hg]), ?_⟩
    rintro _ rfl
    go_simp <;> with_reducible rfl
  refine relG_call (i := 18) (o := ⟨some 42, _, _, _, _, _⟩) ((fun v _ => v = .bool true)) [(16, 40, 1), (17, 41, 0), (14, 38, 3)] [] rfl rfl (by kernel_rfl) (by kernel_rfl) ((fun _ _ _ h _ => h)) ?_ ?_
  · intro t w1 hB hf hbf K hK
    simp only [DepF, List.getD_cons_zero, List.getD_cons_succ] at hf
    obtain ⟨⟨_, ⟨e40, i40⟩, ⟨a16, c16, rfl, hc16⟩⟩, ⟨_, ⟨e41, i41⟩, rfl⟩, ⟨_, ⟨e38, i38⟩, rfl⟩, _⟩ := hf
    clear hbf
    have hx := boxStays S2.out hB
    have x0 := cell_of_row _ c1 0 _ _ _ hx
    have x1 := cell_of_row _ c1 1 _ _ _ hx
    have x2 := cell_of_row _ c1 2 _ _ _ hx
    have x3 := cell_of_row _ c1 3 _ _ _ hx
    have x4 := cell_of_row _ c1 4 _ _ _ hx
    have q1i := Q1.out
    clear hx
    refine ⟨(by have hg := getD_some i38; simp [Region.wanted, yielded, hg]), ?_⟩
    go_simp
    refine (BEH.out w1 _ _ hc16).mono ?_
    rintro e w2 ⟨rfl, hb⟩
    exact hK.out _ w2 (rfl) hb
  refine relG_pure (i := 19) (o := ⟨some 43, _, _, _, _, _⟩) (v := ?v67) [(18, 42, 0), (14, 38, 4)] [] rfl rfl (by kernel_rfl) (by kernel_rfl) (fun t w1 hB hf hbf => ?y67) ?n67
  case y67 =>
    simp only [DepF, List.getD_cons_zero, List.getD_cons_succ] at hf
    obtain ⟨⟨_, ⟨e42, i42⟩, rfl⟩, ⟨_, ⟨e38, i38⟩, rfl⟩, _⟩ := hf
    clear hbf
    have hx := boxStays S2.out hB
    have x0 := cell_of_row _ c1 0 _ _ _ hx
    have x1 := cell_of_row _ c1 1 _ _ _ hx
    have x2 := cell_of_row _ c1 2 _ _ _ hx
    have x3 := cell_of_row _ c1 3 _ _ _ hx
    have x4 := cell_of_row _ c1 4 _ _ _ hx
    have q1i := Q1.out
    clear hx
    refine Or.inl ⟨(by have hg := getD_some i38; simp [Region.wanted, yielded, hg]), ?_⟩
    rintro _ rfl
    go_simp <;> with_reducible rfl
  refine relG_pure (i := 20) (o := ⟨some 44, _, _, _, _, _⟩) (v := ?v68) [(14, 38, 5), (19, 43, 0)] [] rfl rfl (by kernel_rfl) (by kernel_rfl) (fun t w1 hB hf hbf => ?y68) ?n68
  case y68 =>
    simp only [DepF, List.getD_cons_zero, List.getD_cons_succ] at hf
    obtain ⟨⟨_, ⟨e38, i38⟩, rfl⟩, ⟨_, ⟨e43, i43⟩, rfl⟩, _⟩ := hf
    clear hbf
    have hx := boxStays S2.out hB
    have x0 := cell_of_row _ c1 0 _ _ _ hx
    have x1 := cell_of_row _ c1 1 _ _ _ hx
    have x2 := cell_of_row _ c1 2 _ _ _ hx
    have x3 := cell_of_row _ c1 3 _ _ _ hx
    have x4 := cell_of_row _ c1 4 _ _ _ hx
    have q1i := Q1.out
    clear hx
    refine Or.inl ⟨wanted_none rfl, ?_⟩
    rintro _ rfl
    go_simp <;> with_reducible rfl
  refine relG_done [(0, 24, 20), (1, 25, 19), (2, 26, 18), (3, 27, 17), (4, 28, 16), (5, 29, 15), (6, 30, 14), (7, 31, 13), (8, 32, 12), (9, 33, 11), (10, 34, 10), (11, 35, 9), (12, 36, 8), (13, 37, 7), (14, 38, 6), (15, 39, 5), (16, 40, 4), (17, 41, 3), (18, 42, 2), (19, 43, 1), (20, 44, 0)] (by kernel_rfl) rfl (by kernel_rfl) (fun f wE hB hf => ?_)
  simp only [FinF, List.getD_cons_zero, List.getD_cons_succ] at hf
  obtain ⟨⟨_, e24, rfl⟩, ⟨_, e25, rfl⟩, ⟨_, e26, rfl⟩, ⟨_, e27, rfl⟩, ⟨_, e28, rfl⟩, ⟨_, e29, rfl⟩, ⟨_, e30, rfl⟩, ⟨_, e31, rfl⟩, ⟨_, e32, rfl⟩, ⟨_, e33, rfl⟩, ⟨_, e34, rfl⟩, ⟨_, e35, rfl⟩, ⟨_, e36, rfl⟩, ⟨_, e37, rfl⟩, ⟨_, e38, rfl⟩, ⟨_, e39, rfl⟩, ⟨_, e40, ⟨a16, c16, rfl, hc16⟩⟩, ⟨_, e41, rfl⟩, ⟨_, e42, rfl⟩, ⟨_, e43, rfl⟩, ⟨_, e44, rfl⟩, _⟩ := hf
  simp only [regT, List.foldl_cons, List.foldl_nil, List.setIfInBounds_toArray, List.set_cons_zero, List.set_cons_succ, e24, e25, e26, e27, e28, e29, e30, e31, e32, e33, e34, e35, e36, e37, e38, e39, e40, e41, e42, e43, e44]
  clear e24 e25 e26 e27 e28 e29 e30 e31 e32 e33 e34 e35 e36 e37 e38 e39 e40 e41 e42 e43 e44
  have hb := hB
  clear hB
  replace HC := Lib.hid (HC.out.push hb)
  clear hb
  have HR1 : Hid (∀ t, Reg (sortV l) t → Reg (sortV l) t) := Lib.hid (fun _ h => h)
  obtain ⟨L, hL⟩ : ∃ L, sortV l = L := ⟨_, rfl⟩
  rw [hL] at hc16 hbv
  have HLN : Hid (n = L.length) := Lib.hid (by rw [← hL, sortV_length]; exact HN.out)
  have OF : Hid (∀ W, Below w.heap.size w W → Calls Try.prog 35 #[.slice a n c] W fun e w' => ∃ t : Tr ByteArray, e = .returned (.tuple #[.agg #[.pointer (pa t)], .int .i64 0]) ∧ AtS w' t ∧ Reg L t ∧ Below W.heap.size W w') := Lib.hid (fun W hW => by
    refine (of_reg13 l a n c W (HL.out.below hW rfl) HN.out (by omega) HS.out).mono ?_
    rintro e w' ⟨t, ce, rfl, ht, hb, _, hP⟩
    rcases hP with ⟨_, rfl, h2⟩ | ⟨h, _⟩
    · exact ⟨t, rfl, ht, by rw [← hL]; exact h2, hb⟩
    · rw [hmv] at h; cases h)
  have SRT2 : Hid (∀ W, Below w.heap.size w W → Calls Try.prog 38 #[.slice a n c] W fun e w' => ∃ a c, e = .returned (.slice a n c) ∧ CellsAt w' a (elsV L) ∧ n ≤ c ∧ Below W.heap.size W w') := Lib.hid (fun W hW => (ref13_Sorted l a n c W (HL.out.below hW rfl) HN.out (by omega) HS.out).mono fun e w' ⟨v, h1, h2, h3⟩ => by obtain ⟨a, c, rfl, hc, _⟩ := own_slice h2; rw [hL] at h2; exact ⟨a, c, h1, CellsAt.ownN h2, hc, h3⟩)
  have FV : Hid (s.ok = true ∧ x.size ≤ 256) := Lib.hid (okV_iff.1 hfv)
  have BV := Lib.hid hbv
  have FW := Lib.hid hfv
  have NZ : Hid (L.length ≤ 100000 ∧ n ≤ 60) := Lib.hid ⟨by have := HLN.out; have := Q1.out; omega, by have := Q1.out; omega⟩
  clear hc16 hbv hfv hmv MAY FIT BEH SRT MAY0 FIT0 BEH0 HR1 hL
  go_wp2_with fail
  refine (OF.out _ (HC.out.to w (by simp))).mono ?_
  rintro e v1 ⟨t, rfl, ht, hr, hb⟩
  replace HC := Lib.hid (HC.out.push hb)
  clear hb
  have T1 := Lib.hid ht
  have R1 := Lib.hid hr
  clear ht hr
  go_upto_region 6 with (fail)
  obtain ⟨d2, hd2⟩ : ∃ c, v1.heap.size = c := ⟨_, rfl⟩
  try rw [hd2]
  obtain ⟨v2, hv2⟩ : ∃ X, allocs v1 [.cells #[.pointer (pa t)] 27] = X := ⟨_, rfl⟩
  rw [show v1.alloc (.cells #[.pointer (pa t)] 27) = v2 from hv2]
  have hb : Below v1.heap.size v1 v2 := by rw [← hv2]; exact allocs_below _ _
  have HM : Hid (v2.heap[d2]? = some (.cells #[.pointer (pa t)] 27 (0, 0))) := Lib.hid (by have := allocs_get [.cells #[.pointer (pa t)] 27] v1 0 _ rfl; rw [hv2, hd2] at this; exact this)
  have Sd2 : Hid (v1.heap.size = d2) := Lib.hid hd2
  replace HC := Lib.hid (HC.out.push hb)
  clear hb hv2 hd2
  have kM0 := cell_of_one HM.out
  go_wp2_with fail
  refine (qu_PopAny L t _ (T1.out.below (HC.out.to v1 (by simp)) rfl) R1.out NZ.out.1).mono ?_
  rintro e v3 ⟨ma, y, rfl, hy, hm, hr, hb⟩
  clear kM0
  replace HC := Lib.hid (HC.out.push hb)
  clear hb
  have TA := Lib.hid hm
  have RA := Lib.hid hr
  have HY := Lib.hid hy
  clear hm hr hy
  have DB : Hid (decide (0 < L.length) = decide (0 < n)) := Lib.hid (by rw [← HLN.out])
  rw [DB.out]
  obtain ⟨dn, hdn⟩ : ∃ d, decide (0 < n) = d := ⟨_, rfl⟩
  rw [hdn]
  rw [hdn] at DB
  have DN := Lib.hid hdn
  clear hdn
  go_upto_region 7 with (fail)
  obtain ⟨d4, hd4⟩ : ∃ c, v3.heap.size = c := ⟨_, rfl⟩
  try rw [hd4]
  obtain ⟨v4, hv4⟩ : ∃ X, allocs v3 [.cells #[.pointer (pa ma)] 27, .cells #[.int .i64 y.1.g, .int .i64 y.1.r, .string y.1.l, .int .i64 y.1.n, .int .i64 y.1.i, .string y.2] 47] = X := ⟨_, rfl⟩
  rw [show (v3.alloc (.cells #[.pointer (pa ma)] 27)).alloc (.cells #[.int .i64 y.1.g, .int .i64 y.1.r, .string y.1.l, .int .i64 y.1.n, .int .i64 y.1.i, .string y.2] 47) = v4 from hv4]
  have hb : Below v3.heap.size v3 v4 := by rw [← hv4]; exact allocs_below _ _
  have HA : Hid (v4.heap[d4]? = some (.cells #[.pointer (pa ma)] 27 (0, 0))) := Lib.hid (by have := allocs_get [.cells #[.pointer (pa ma)] 27, .cells #[.int .i64 y.1.g, .int .i64 y.1.r, .string y.1.l, .int .i64 y.1.n, .int .i64 y.1.i, .string y.2] 47] v3 0 _ rfl; rw [hv4, hd4] at this; exact this)
  have HX1 : Hid (v4.heap[d4 + 1]? = some (.cells #[.int .i64 y.1.g, .int .i64 y.1.r, .string y.1.l, .int .i64 y.1.n, .int .i64 y.1.i, .string y.2] 47 (0, 0))) := Lib.hid (by have := allocs_get [.cells #[.pointer (pa ma)] 27, .cells #[.int .i64 y.1.g, .int .i64 y.1.r, .string y.1.l, .int .i64 y.1.n, .int .i64 y.1.i, .string y.2] 47] v3 1 _ rfl; rw [hv4, hd4] at this; exact this)
  have Sd4 : Hid (v3.heap.size = d4) := Lib.hid hd4
  replace HC := Lib.hid (HC.out.push hb)
  clear hb hv4 hd4
  have kM0 := cell_of_one (boxStays HM.out (HC.out.to v2 (by simp)))
  go_wp2_with fail
  refine (qu_PopAny L t _ (T1.out.below (HC.out.to v1 (by simp)) rfl) R1.out NZ.out.1).mono ?_
  rintro e v5 ⟨mb, y2, rfl, hy, hm, hr, hb⟩
  clear kM0
  replace HC := Lib.hid (HC.out.push hb)
  clear hb
  obtain rfl : y2 = y := by rw [hy]; exact HY.out.symm
  rw [DB.out]
  have TB := Lib.hid hm
  have RB := Lib.hid hr
  clear hm hr hy HY
  go_upto_region 8 with (fail)
  obtain ⟨d6, hd6⟩ : ∃ c, v5.heap.size = c := ⟨_, rfl⟩
  try rw [hd6]
  obtain ⟨v6, hv6⟩ : ∃ X, allocs v5 [.cells #[.pointer (pa mb)] 27, .cells #[.int .i64 y2.1.g, .int .i64 y2.1.r, .string y2.1.l, .int .i64 y2.1.n, .int .i64 y2.1.i, .string y2.2] 47] = X := ⟨_, rfl⟩
  rw [show (v5.alloc (.cells #[.pointer (pa mb)] 27)).alloc (.cells #[.int .i64 y2.1.g, .int .i64 y2.1.r, .string y2.1.l, .int .i64 y2.1.n, .int .i64 y2.1.i, .string y2.2] 47) = v6 from hv6]
  have hb : Below v5.heap.size v5 v6 := by rw [← hv6]; exact allocs_below _ _
  have HB : Hid (v6.heap[d6]? = some (.cells #[.pointer (pa mb)] 27 (0, 0))) := Lib.hid (by have := allocs_get [.cells #[.pointer (pa mb)] 27, .cells #[.int .i64 y2.1.g, .int .i64 y2.1.r, .string y2.1.l, .int .i64 y2.1.n, .int .i64 y2.1.i, .string y2.2] 47] v5 0 _ rfl; rw [hv6, hd6] at this; exact this)
  have HX2 : Hid (v6.heap[d6 + 1]? = some (.cells #[.int .i64 y2.1.g, .int .i64 y2.1.r, .string y2.1.l, .int .i64 y2.1.n, .int .i64 y2.1.i, .string y2.2] 47 (0, 0))) := Lib.hid (by have := allocs_get [.cells #[.pointer (pa mb)] 27, .cells #[.int .i64 y2.1.g, .int .i64 y2.1.r, .string y2.1.l, .int .i64 y2.1.n, .int .i64 y2.1.i, .string y2.2] 47] v5 1 _ rfl; rw [hv6, hd6] at this; exact this)
  have Sd6 : Hid (v5.heap.size = d6) := Lib.hid hd6
  replace HC := Lib.hid (HC.out.push hb)
  clear hb hv6 hd6
  have kB0 := cell_of_one HB.out
  have kSB0 := cell_of_row _ _ 0 _ _ _ (boxStays HSB.out (HC.out.to w1 (by simp)))
  have kSB1 := cell_of_row _ _ 1 _ _ _ (boxStays HSB.out (HC.out.to w1 (by simp)))
  have kSB2 := cell_of_row _ _ 2 _ _ _ (boxStays HSB.out (HC.out.to w1 (by simp)))
  have kSB3 := cell_of_row _ _ 3 _ _ _ (boxStays HSB.out (HC.out.to w1 (by simp)))
  have kSB4 := cell_of_row _ _ 4 _ _ _ (boxStays HSB.out (HC.out.to w1 (by simp)))
  go_wp2_with fail
  refine (put_reg13 s x _ (TB.out.below (HC.out.to v5 (by simp)) rfl) RB.out (by rw [List.length_tail]; have := NZ.out; omega) HSS.out).mono ?_
  rintro e v7 ⟨mc, ce, rfl, hm, hb, hP⟩
  clear kB0 kSB0 kSB1 kSB2 kSB3 kSB4
  replace HC := Lib.hid (HC.out.push hb)
  clear hb
  obtain ⟨rfl, hr⟩ : ce = 0 ∧ Reg (L.tail ++ [(s, x)]) mc := by
    rcases hP with ⟨_, h1, h2, _⟩ | ⟨h, _⟩
    · exact ⟨h1, h2⟩
    · rw [FW.out, beh_tail BV.out] at h; cases h
  have TC := Lib.hid hm
  have RC := Lib.hid hr
  clear hm hr hP
  go_upto_region 9 with (fail)
  obtain ⟨d8, hd8⟩ : ∃ c, v7.heap.size = c := ⟨_, rfl⟩
  try rw [hd8]
  obtain ⟨v8, hv8⟩ : ∃ X, allocs v7 [.cells #[.pointer (pa mc)] 27] = X := ⟨_, rfl⟩
  rw [show v7.alloc (.cells #[.pointer (pa mc)] 27) = v8 from hv8]
  have hb : Below v7.heap.size v7 v8 := by rw [← hv8]; exact allocs_below _ _
  have HCB : Hid (v8.heap[d8]? = some (.cells #[.pointer (pa mc)] 27 (0, 0))) := Lib.hid (by have := allocs_get [.cells #[.pointer (pa mc)] 27] v7 0 _ rfl; rw [hv8, hd8] at this; exact this)
  have Sd8 : Hid (v7.heap.size = d8) := Lib.hid hd8
  replace HC := Lib.hid (HC.out.push hb)
  clear hb hv8 hd8
  have kM0 := cell_of_one (boxStays HM.out (HC.out.to v2 (by simp)))
  have kA0 := cell_of_one (boxStays HA.out (HC.out.to v4 (by simp)))
  have kCB0 := cell_of_one HCB.out
  go_wp2_with fail
  refine (thr_reg13 _ R1.out RA.out RC.out (T1.out.below (HC.out.to v1 (by simp)) rfl) (TA.out.below (HC.out.to v3 (by simp)) rfl) (TC.out.below (HC.out.to v7 (by simp)) rfl) NZ.out.1 (by rw [List.length_tail]; have := NZ.out; omega) (by rw [List.length_append, List.length_tail]; have := NZ.out; simp; omega) (.inr fun k h1 _ => pops_agree RA.out RC.out k h1)).mono ?_
  rintro e v9 ⟨mn, rfl, hm, hb, hr⟩
  clear kM0 kA0 kCB0
  replace HC := Lib.hid (HC.out.push hb)
  clear hb
  have TN := Lib.hid hm
  have RN : Hid (Reg (L.tail ++ [(s, x)]) mn) := Lib.hid (by
    rw [thrV_pops R1.out (by cases L with
      | nil => exact ⟨[], rfl⟩
      | cons z L => exact ⟨[z], rfl⟩) RA.out RC.out (behind_ne R1.out FV.out.1 BV.out)] at hr
    exact hr)
  clear hm hr
  go_upto_region 10 with (fail)
  obtain ⟨d10, hd10⟩ : ∃ c, v9.heap.size = c := ⟨_, rfl⟩
  try rw [hd10]
  obtain ⟨v10, hv10⟩ : ∃ X, allocs v9 [.cells #[.pointer (pa mn)] 27] = X := ⟨_, rfl⟩
  rw [show v9.alloc (.cells #[.pointer (pa mn)] 27) = v10 from hv10]
  have hb : Below v9.heap.size v9 v10 := by rw [← hv10]; exact allocs_below _ _
  have HNN : Hid (v10.heap[d10]? = some (.cells #[.pointer (pa mn)] 27 (0, 0))) := Lib.hid (by have := allocs_get [.cells #[.pointer (pa mn)] 27] v9 0 _ rfl; rw [hv10, hd10] at this; exact this)
  have Sd10 : Hid (v9.heap.size = d10) := Lib.hid hd10
  replace HC := Lib.hid (HC.out.push hb)
  clear hb hv10 hd10
  have kNN0 := cell_of_one HNN.out
  go_wp2_with fail
  refine (els_reg13 _ (TN.out.below (HC.out.to v9 (by simp)) rfl) RN.out (by rw [List.length_append, List.length_tail]; have := NZ.out; simp; omega)).mono ?_
  rintro e v11 ⟨v, rfl, hb, hown⟩
  clear kNN0
  replace HC := Lib.hid (HC.out.push hb)
  clear hb
  obtain ⟨ae, ce, rfl, _⟩ := own_slice hown
  have E1 : Hid (CellsAt v11 ae (elsV (L.tail ++ [(s, x)]))) := Lib.hid (CellsAt.ownN hown)
  clear hown
  obtain ⟨ne, hne⟩ : ∃ k, (L.tail ++ [(s, x)]).length = k := ⟨_, rfl⟩
  rw [hne]
  have NE := Lib.hid hne
  clear hne
  go_wp2_with fail
  refine (SRT2.out _ (HC.out.to w (by simp))).mono ?_
  rintro e v12 ⟨aw, cw, rfl, hca, hcw, hb⟩
  replace HC := Lib.hid (HC.out.push hb)
  clear hb
  have CW := Lib.hid hca
  clear hca
  have HCW := Lib.hid hcw
  clear hcw
  have ET := Lib.hid elT
  have S12 := Lib.hid (boxStays HSB.out (HC.out.to w1 (by simp)))
  have EQ : Hid (∀ W, (binOp .eql 47 (.agg #[.int .i64 y2.1.g, .int .i64 y2.1.r, .string y2.1.l, .int .i64 y2.1.n, .int .i64 y2.1.i, .string y2.2]) (.agg #[.int .i64 y2.1.g, .int .i64 y2.1.r, .string y2.1.l, .int .i64 y2.1.n, .int .i64 y2.1.i, .string y2.2])).run Try.prog W = .ok (.bool true) W) := Lib.hid (fun W => (ev_eql y2 y2 W).trans (by simp))
  have XE1 := Lib.hid (E1.out.below (HC.out.to v11 (by simp)) rfl)
  have BE1 := Lib.hid (HC.out.to w (by simp))
  have HX1' := Lib.hid (boxStays HX1.out (HC.out.to v4 (by simp)))
  have HX2' := Lib.hid (boxStays HX2.out (HC.out.to v6 (by simp)))
  clear HC
  by_cases hp : 0 < n
  · have hpi : (0 : Int) < (n : Int) := by omega
    obtain rfl : dn = true := by rw [← DN.out]; exact decide_eq_true hp
    have SL := Lib.hid (fun w' => run_from (P := Try.prog) w' 22 47 Try.underlying22 6 Try.sizeOf47 aw n cw 1 (1 : Int) rfl (by omega))
    have CW2 : Hid (CellsAt v12 (subN aw cw 1 6) (elsV L.tail)) := Lib.hid (by
      rw [show L.tail = L.drop 1 from by cases L <;> rfl, elsV_drop]
      exact CW.out.subN cw 1 6 (fun e => by rw [elsV_length]; have := HLN.out; have := HCW.out; omega))
    obtain ⟨sb, hsb⟩ : ∃ a, subN aw cw 1 6 = a := ⟨_, rfl⟩
    obtain ⟨nW, hnW⟩ : ∃ k, n - 1 = k := ⟨_, rfl⟩
    obtain ⟨cW, hcW⟩ : ∃ k, cw - 1 = k := ⟨_, rfl⟩
    rw [hsb, hnW, hcW] at SL
    rw [hsb] at CW2
    have NW : Hid (nW = L.tail.length) := Lib.hid (by rw [List.length_tail, ← HLN.out]; exact hnW.symm)
    have hnW60 : nW ≤ 60 := by have := NZ.out.2; omega
    have hlt1 : (elsV L.tail).length = nW * 6 := by rw [elsV_length, NW.out]
    clear hsb hnW hcW DN DB
    have sl := SL.out
    go_upto_region 14 with (fail)
    clear sl
    refine wp_region_noPanic ?_
    refine wp_region_held_drew (S := fun w' => Below v12.heap.size v12 w') (by kernel_rfl) (Below.refl _ _).drew (fun hS => ?_)
    refine wpAnyH_take (i := 0) (oi := ⟨some 88, _, _, _, _, _⟩) (v := ?_) rfl (by kernel_rfl) (by kernel_rfl) (by kernel_rfl) (fun _ _ _ h => h) (Or.inl ⟨by rfl, ?_⟩) hS ?_
    rotate_left 1
    · intro w' hB; have hx := boxStays S12.out hB; have x0 := cell_of_row _ c1 0 _ _ _ hx; have x1 := cell_of_row _ c1 1 _ _ _ hx; have x2 := cell_of_row _ c1 2 _ _ _ hx; have x3 := cell_of_row _ c1 3 _ _ _ hx; have x4 := cell_of_row _ c1 4 _ _ _ hx; clear hx; (go_simp <;> with_reducible rfl)
    try simp only [Act.put, List.setIfInBounds_toArray, List.set_cons_zero, List.set_cons_succ]
    refine wpAnyH_take (i := 2) (oi := ⟨some 90, _, _, _, _, _⟩) (v := ?_) rfl (by kernel_rfl) (by kernel_rfl) (by kernel_rfl) (fun _ _ _ h => h) (Or.inl ⟨by rfl, ?_⟩) hS ?_
    rotate_left 1
    · intro w' hB; have hx := boxStays S12.out hB; have x0 := cell_of_row _ c1 0 _ _ _ hx; have x1 := cell_of_row _ c1 1 _ _ _ hx; have x2 := cell_of_row _ c1 2 _ _ _ hx; have x3 := cell_of_row _ c1 3 _ _ _ hx; have x4 := cell_of_row _ c1 4 _ _ _ hx; clear hx; (go_simp <;> with_reducible rfl)
    try simp only [Act.put, List.setIfInBounds_toArray, List.set_cons_zero, List.set_cons_succ]
    refine wpAnyH_take (i := 3) (oi := ⟨some 91, _, _, _, _, _⟩) (v := ?_) rfl (by kernel_rfl) (by kernel_rfl) (by kernel_rfl) (fun _ _ _ h => h) (Or.inl ⟨by rfl, ?_⟩) hS ?_
    rotate_left 1
    · intro w' hB; have hx := boxStays S12.out hB; have x0 := cell_of_row _ c1 0 _ _ _ hx; have x1 := cell_of_row _ c1 1 _ _ _ hx; have x2 := cell_of_row _ c1 2 _ _ _ hx; have x3 := cell_of_row _ c1 3 _ _ _ hx; have x4 := cell_of_row _ c1 4 _ _ _ hx; clear hx; (go_simp <;> with_reducible rfl)
    try simp only [Act.put, List.setIfInBounds_toArray, List.set_cons_zero, List.set_cons_succ]
    refine wpAnyH_take (i := 4) (oi := ⟨some 92, _, _, _, _, _⟩) (v := ?_) rfl (by kernel_rfl) (by kernel_rfl) (by kernel_rfl) (fun _ _ _ h => h) (Or.inl ⟨by rfl, ?_⟩) hS ?_
    rotate_left 1
    · intro w' hB; have hx := boxStays S12.out hB; have x0 := cell_of_row _ c1 0 _ _ _ hx; have x1 := cell_of_row _ c1 1 _ _ _ hx; have x2 := cell_of_row _ c1 2 _ _ _ hx; have x3 := cell_of_row _ c1 3 _ _ _ hx; have x4 := cell_of_row _ c1 4 _ _ _ hx; clear hx; (go_simp <;> with_reducible rfl)
    try simp only [Act.put, List.setIfInBounds_toArray, List.set_cons_zero, List.set_cons_succ]
    refine wpAnyH_ready (rs := [1, 5]) (by kernel_rfl) (by simp) (AllReadyH.cons (o := ⟨some 89, _, _, _, _, _⟩) rfl (fun K hK => ?way70) (AllReadyH.cons (o := ⟨some 93, _, _, _, _, _⟩) rfl (fun K hK => ?way69) AllReadyH.nil))
    case' way70 =>
      refine step_app rfl _ _ _ _ rfl v12.heap.size 47 _ 6 64 ET.out (.slice none 0 0) 0 [] rfl ⟨rfl, Or.inl ⟨rfl, rfl⟩⟩ _ nW (elsV L.tail) rfl ((CW2.out.below hS rfl).srcN hlt1 (elsV_one _) Try.underlying22 cW (by decide)) (by unfold maxLen; omega) (by omega) hS.size ?_
      intro u3 w3 hown hgr hb _
      refine hK.out _ _ (hS.trans hb) (fun _ => ?_)
      clear hK K
      replace hS := hS.trans hb
      have H3 : Hid (World.ownsRow _ v12.heap.size 47 6 u3 nW (elsV L.tail)) := Lib.hid (by simpa using hown)
      (try (replace H8 := Lib.hid (H8.out.below (grown_none hgr) rfl)))
      clear hb hgr
      try simp only [Act.put, List.setIfInBounds_toArray, List.set_cons_zero, List.set_cons_succ]
      refine wpAnyH_ready (rs := [5]) (by kernel_rfl) (by simp) (AllReadyH.cons (o := ⟨some 93, _, _, _, _, _⟩) rfl (fun K hK => ?_) AllReadyH.nil)
      go_simp
      refine hK.out _ _ (hS.alloc hS.size _) (fun _ => ?_)
      clear hK K
      refine wpAnyH_madeK hS hS.size ?_
      have hS0 := hS
      clear hS
      rintro w8 hw hS
      (try (replace H3 := Lib.hid (show World.ownsRow w8 v12.heap.size 47 6 u3 nW (elsV L.tail) from by rw [hw]; exact H3.out.alloc _)))
      have H8 := Lib.hid (cellsAt_made (vs := elV (s, x)) hw)
      clear hw hS0
      try simp only [Act.put, List.setIfInBounds_toArray, List.set_cons_zero, List.set_cons_succ]
      refine wpAnyH_ready (rs := [6]) (by kernel_rfl) (by simp) (AllReadyH.cons (o := ⟨some 94, _, _, _, _, _⟩) rfl (fun K hK => ?_) AllReadyH.nil)
      refine step_app rfl _ _ _ _ rfl v12.heap.size 47 _ 6 64 ET.out u3 nW (elsV L.tail) rfl H3.out _ 1 (elV (s, x)) rfl (H8.out.srcN rfl (fun u hu => elsV_one [(s, x)] u (by simpa [elsV] using hu)) Try.underlying22 1 (by decide)) (by unfold maxLen; omega) (by omega) hS.size ?_
      intro u9 w9 hown hgr hb _
      refine hK.out _ _ (hS.trans hb) (fun _ => ?_)
      clear hK K
      replace hS := hS.trans hb
      have H9 := Lib.hid hown
      clear hb hgr
      try simp only [Act.put, List.setIfInBounds_toArray, List.set_cons_zero, List.set_cons_succ]
      refine wpAnyH_take (i := 7) (oi := ⟨some 21, _, _, _, _, _⟩) (v := ?_) rfl (by kernel_rfl) (by kernel_rfl) (by kernel_rfl) (fun _ _ _ h => h) (Or.inl ⟨by rfl, ?_⟩) hS ?_
      rotate_left 1
      · intro w' hB; have hx := boxStays S12.out hB; have x0 := cell_of_row _ c1 0 _ _ _ hx; have x1 := cell_of_row _ c1 1 _ _ _ hx; have x2 := cell_of_row _ c1 2 _ _ _ hx; have x3 := cell_of_row _ c1 3 _ _ _ hx; have x4 := cell_of_row _ c1 4 _ _ _ hx; clear hx; (go_simp <;> with_reducible rfl)
      try simp only [Act.put, List.setIfInBounds_toArray, List.set_cons_zero, List.set_cons_succ]
      refine wpAnyH_done (by kernel_rfl) (NoPanic.normal ?_) _
    case' way69 =>
      go_simp
      refine hK.out _ _ (hS.alloc hS.size _) (fun _ => ?_)
      clear hK K
      refine wpAnyH_madeK hS hS.size ?_
      have hS0 := hS
      clear hS
      rintro w8 hw hS
      (try (replace H3 := Lib.hid (show World.ownsRow w8 v12.heap.size 47 6 u3 nW (elsV L.tail) from by rw [hw]; exact H3.out.alloc _)))
      have H8 := Lib.hid (cellsAt_made (vs := elV (s, x)) hw)
      clear hw hS0
      try simp only [Act.put, List.setIfInBounds_toArray, List.set_cons_zero, List.set_cons_succ]
      refine wpAnyH_ready (rs := [1]) (by kernel_rfl) (by simp) (AllReadyH.cons (o := ⟨some 89, _, _, _, _, _⟩) rfl (fun K hK => ?_) AllReadyH.nil)
      refine step_app rfl _ _ _ _ rfl v12.heap.size 47 _ 6 64 ET.out (.slice none 0 0) 0 [] rfl ⟨rfl, Or.inl ⟨rfl, rfl⟩⟩ _ nW (elsV L.tail) rfl ((CW2.out.below hS rfl).srcN hlt1 (elsV_one _) Try.underlying22 cW (by decide)) (by unfold maxLen; omega) (by omega) hS.size ?_
      intro u3 w3 hown hgr hb _
      refine hK.out _ _ (hS.trans hb) (fun _ => ?_)
      clear hK K
      replace hS := hS.trans hb
      have H3 : Hid (World.ownsRow _ v12.heap.size 47 6 u3 nW (elsV L.tail)) := Lib.hid (by simpa using hown)
      (try (replace H8 := Lib.hid (H8.out.below (grown_none hgr) rfl)))
      clear hb hgr
      try simp only [Act.put, List.setIfInBounds_toArray, List.set_cons_zero, List.set_cons_succ]
      refine wpAnyH_ready (rs := [6]) (by kernel_rfl) (by simp) (AllReadyH.cons (o := ⟨some 94, _, _, _, _, _⟩) rfl (fun K hK => ?_) AllReadyH.nil)
      refine step_app rfl _ _ _ _ rfl v12.heap.size 47 _ 6 64 ET.out u3 nW (elsV L.tail) rfl H3.out _ 1 (elV (s, x)) rfl (H8.out.srcN rfl (fun u hu => elsV_one [(s, x)] u (by simpa [elsV] using hu)) Try.underlying22 1 (by decide)) (by unfold maxLen; omega) (by omega) hS.size ?_
      intro u9 w9 hown hgr hb _
      refine hK.out _ _ (hS.trans hb) (fun _ => ?_)
      clear hK K
      replace hS := hS.trans hb
      have H9 := Lib.hid hown
      clear hb hgr
      try simp only [Act.put, List.setIfInBounds_toArray, List.set_cons_zero, List.set_cons_succ]
      refine wpAnyH_take (i := 7) (oi := ⟨some 21, _, _, _, _, _⟩) (v := ?_) rfl (by kernel_rfl) (by kernel_rfl) (by kernel_rfl) (fun _ _ _ h => h) (Or.inl ⟨by rfl, ?_⟩) hS ?_
      rotate_left 1
      · intro w' hB; have hx := boxStays S12.out hB; have x0 := cell_of_row _ c1 0 _ _ _ hx; have x1 := cell_of_row _ c1 1 _ _ _ hx; have x2 := cell_of_row _ c1 2 _ _ _ hx; have x3 := cell_of_row _ c1 3 _ _ _ hx; have x4 := cell_of_row _ c1 4 _ _ _ hx; clear hx; (go_simp <;> with_reducible rfl)
      try simp only [Act.put, List.setIfInBounds_toArray, List.set_cons_zero, List.set_cons_succ]
      refine wpAnyH_done (by kernel_rfl) (NoPanic.normal ?_) _
    all_goals
      have O9 := H9.out
      rw [show elsV L.tail ++ elV (s, x) = elsV (L.tail ++ [(s, x)]) from by rw [elsV_append]; rfl] at O9
      obtain ⟨a9, k9, rfl, _⟩ := own_slice O9
      have C9 : Hid (CellsAt w9 a9 (elsV (L.tail ++ [(s, x)]))) := Lib.hid (CellsAt.ownN O9)
      have N9 : Hid (nW + 1 = (L.tail ++ [(s, x)]).length) := Lib.hid (by rw [List.length_append]; have := NW.out; simp at this ⊢; omega)
      have S9 := Lib.hid hS
      clear H9 H3 H8 O9 hS
      have HC : Hid (Chain [v12] v12) := Lib.hid (Chain.one v12)
      have hb := S9.out
      replace HC := Lib.hid (HC.out.push hb)
      clear hb
      have HX1 := HX1'
      have HX2 := HX2'
      go_upto_region 15 with (fail)
      try simp only [List.append]
      go_wp2_with fail
      refine (num_13 0 _).mono ?_
      rintro e _ ⟨rfl, rfl⟩
      go_wp2_with fail
      refine (num_13 0 _).mono ?_
      rintro e _ ⟨rfl, rfl⟩
      go_wp2_with fail
      refine (num_13 0 _).mono ?_
      rintro e _ ⟨rfl, rfl⟩
      go_wp2_with fail
      refine (num_13 0 _).mono ?_
      rintro e _ ⟨rfl, rfl⟩
      have kX10 := cell_of_row _ _ 0 _ _ _ (boxStays HX1.out (HC.out.to v12 (by simp)))
      have kX11 := cell_of_row _ _ 1 _ _ _ (boxStays HX1.out (HC.out.to v12 (by simp)))
      have kX12 := cell_of_row _ _ 2 _ _ _ (boxStays HX1.out (HC.out.to v12 (by simp)))
      have kX13 := cell_of_row _ _ 3 _ _ _ (boxStays HX1.out (HC.out.to v12 (by simp)))
      have kX14 := cell_of_row _ _ 4 _ _ _ (boxStays HX1.out (HC.out.to v12 (by simp)))
      have kX15 := cell_of_row _ _ 5 _ _ _ (boxStays HX1.out (HC.out.to v12 (by simp)))
      have kX20 := cell_of_row _ _ 0 _ _ _ (boxStays HX2.out (HC.out.to v12 (by simp)))
      have kX21 := cell_of_row _ _ 1 _ _ _ (boxStays HX2.out (HC.out.to v12 (by simp)))
      have kX22 := cell_of_row _ _ 2 _ _ _ (boxStays HX2.out (HC.out.to v12 (by simp)))
      have kX23 := cell_of_row _ _ 3 _ _ _ (boxStays HX2.out (HC.out.to v12 (by simp)))
      have kX24 := cell_of_row _ _ 4 _ _ _ (boxStays HX2.out (HC.out.to v12 (by simp)))
      have kX25 := cell_of_row _ _ 5 _ _ _ (boxStays HX2.out (HC.out.to v12 (by simp)))
      have eq := EQ.out
      go_wp2_with fail
      clear eq
      refine (ref9_SameElements (L.tail ++ [(s, x)]) (L.tail ++ [(s, x)]) _ _ ne (nW + 1) _ _ _ (XE1.out.below (HC.out.to v12 (by simp)) rfl) (C9.out.below (HC.out.to w9 (by simp)) rfl) NE.out.symm N9.out (by have := NE.out; have := N9.out; omega)).mono ?_
      rintro e z1 ⟨rfl, hb⟩
      clear kX10 kX11 kX12 kX13 kX14 kX15 kX20 kX21 kX22 kX23 kX24 kX25
      replace HC := Lib.hid (HC.out.push hb)
      clear hb
      rw [decide_eq_true rfl]
      go_wp2_with fail
      go_ret
      exact ⟨rfl, BE1.out.trans ((HC.out.to v12 (by simp)).mono BE1.out.size)⟩
  · have hpi : ¬ (0 : Int) < (n : Int) := by omega
    obtain rfl : dn = false := by rw [← DN.out]; exact decide_eq_false hp
    have hL0 : L = [] := List.length_eq_zero_iff.1 (by rw [← HLN.out]; omega)
    have CW2 : Hid (CellsAt v12 aw (elsV L.tail)) := Lib.hid (by rw [hL0]; exact CellsAt.nil _ _)
    have NW : Hid (n = L.tail.length) := Lib.hid (by rw [hL0]; show n = 0; omega)
    have hlt1 : (elsV L.tail).length = n * 6 := by rw [elsV_length, NW.out]
    have hn60 : n ≤ 60 := NZ.out.2
    clear hL0 DN DB
    go_upto_region 14 with (fail)
    refine wp_region_noPanic ?_
    refine wp_region_held_drew (S := fun w' => Below v12.heap.size v12 w') (by kernel_rfl) (Below.refl _ _).drew (fun hS => ?_)
    refine wpAnyH_take (i := 0) (oi := ⟨some 88, _, _, _, _, _⟩) (v := ?_) rfl (by kernel_rfl) (by kernel_rfl) (by kernel_rfl) (fun _ _ _ h => h) (Or.inl ⟨by rfl, ?_⟩) hS ?_
    rotate_left 1
    · intro w' hB; have hx := boxStays S12.out hB; have x0 := cell_of_row _ c1 0 _ _ _ hx; have x1 := cell_of_row _ c1 1 _ _ _ hx; have x2 := cell_of_row _ c1 2 _ _ _ hx; have x3 := cell_of_row _ c1 3 _ _ _ hx; have x4 := cell_of_row _ c1 4 _ _ _ hx; clear hx; (go_simp <;> with_reducible rfl)
    try simp only [Act.put, List.setIfInBounds_toArray, List.set_cons_zero, List.set_cons_succ]
    refine wpAnyH_take (i := 2) (oi := ⟨some 90, _, _, _, _, _⟩) (v := ?_) rfl (by kernel_rfl) (by kernel_rfl) (by kernel_rfl) (fun _ _ _ h => h) (Or.inl ⟨by rfl, ?_⟩) hS ?_
    rotate_left 1
    · intro w' hB; have hx := boxStays S12.out hB; have x0 := cell_of_row _ c1 0 _ _ _ hx; have x1 := cell_of_row _ c1 1 _ _ _ hx; have x2 := cell_of_row _ c1 2 _ _ _ hx; have x3 := cell_of_row _ c1 3 _ _ _ hx; have x4 := cell_of_row _ c1 4 _ _ _ hx; clear hx; (go_simp <;> with_reducible rfl)
    try simp only [Act.put, List.setIfInBounds_toArray, List.set_cons_zero, List.set_cons_succ]
    refine wpAnyH_take (i := 3) (oi := ⟨some 91, _, _, _, _, _⟩) (v := ?_) rfl (by kernel_rfl) (by kernel_rfl) (by kernel_rfl) (fun _ _ _ h => h) (Or.inl ⟨by rfl, ?_⟩) hS ?_
    rotate_left 1
    · intro w' hB; have hx := boxStays S12.out hB; have x0 := cell_of_row _ c1 0 _ _ _ hx; have x1 := cell_of_row _ c1 1 _ _ _ hx; have x2 := cell_of_row _ c1 2 _ _ _ hx; have x3 := cell_of_row _ c1 3 _ _ _ hx; have x4 := cell_of_row _ c1 4 _ _ _ hx; clear hx; (go_simp <;> with_reducible rfl)
    try simp only [Act.put, List.setIfInBounds_toArray, List.set_cons_zero, List.set_cons_succ]
    refine wpAnyH_take (i := 4) (oi := ⟨some 92, _, _, _, _, _⟩) (v := ?_) rfl (by kernel_rfl) (by kernel_rfl) (by kernel_rfl) (fun _ _ _ h => h) (Or.inl ⟨by rfl, ?_⟩) hS ?_
    rotate_left 1
    · intro w' hB; have hx := boxStays S12.out hB; have x0 := cell_of_row _ c1 0 _ _ _ hx; have x1 := cell_of_row _ c1 1 _ _ _ hx; have x2 := cell_of_row _ c1 2 _ _ _ hx; have x3 := cell_of_row _ c1 3 _ _ _ hx; have x4 := cell_of_row _ c1 4 _ _ _ hx; clear hx; (go_simp <;> with_reducible rfl)
    try simp only [Act.put, List.setIfInBounds_toArray, List.set_cons_zero, List.set_cons_succ]
    refine wpAnyH_ready (rs := [1, 5]) (by kernel_rfl) (by simp) (AllReadyH.cons (o := ⟨some 89, _, _, _, _, _⟩) rfl (fun K hK => ?way72) (AllReadyH.cons (o := ⟨some 93, _, _, _, _, _⟩) rfl (fun K hK => ?way71) AllReadyH.nil))
    case' way72 =>
      refine step_app rfl _ _ _ _ rfl v12.heap.size 47 _ 6 64 ET.out (.slice none 0 0) 0 [] rfl ⟨rfl, Or.inl ⟨rfl, rfl⟩⟩ _ n (elsV L.tail) rfl ((CW2.out.below hS rfl).srcN hlt1 (elsV_one _) Try.underlying22 cw (by decide)) (by unfold maxLen; omega) (by omega) hS.size ?_
      intro u3 w3 hown hgr hb _
      refine hK.out _ _ (hS.trans hb) (fun _ => ?_)
      clear hK K
      replace hS := hS.trans hb
      have H3 : Hid (World.ownsRow _ v12.heap.size 47 6 u3 n (elsV L.tail)) := Lib.hid (by simpa using hown)
      (try (replace H8 := Lib.hid (H8.out.below (grown_none hgr) rfl)))
      clear hb hgr
      try simp only [Act.put, List.setIfInBounds_toArray, List.set_cons_zero, List.set_cons_succ]
      refine wpAnyH_ready (rs := [5]) (by kernel_rfl) (by simp) (AllReadyH.cons (o := ⟨some 93, _, _, _, _, _⟩) rfl (fun K hK => ?_) AllReadyH.nil)
      go_simp
      refine hK.out _ _ (hS.alloc hS.size _) (fun _ => ?_)
      clear hK K
      refine wpAnyH_madeK hS hS.size ?_
      have hS0 := hS
      clear hS
      rintro w8 hw hS
      (try (replace H3 := Lib.hid (show World.ownsRow w8 v12.heap.size 47 6 u3 n (elsV L.tail) from by rw [hw]; exact H3.out.alloc _)))
      have H8 := Lib.hid (cellsAt_made (vs := elV (s, x)) hw)
      clear hw hS0
      try simp only [Act.put, List.setIfInBounds_toArray, List.set_cons_zero, List.set_cons_succ]
      refine wpAnyH_ready (rs := [6]) (by kernel_rfl) (by simp) (AllReadyH.cons (o := ⟨some 94, _, _, _, _, _⟩) rfl (fun K hK => ?_) AllReadyH.nil)
      refine step_app rfl _ _ _ _ rfl v12.heap.size 47 _ 6 64 ET.out u3 n (elsV L.tail) rfl H3.out _ 1 (elV (s, x)) rfl (H8.out.srcN rfl (fun u hu => elsV_one [(s, x)] u (by simpa [elsV] using hu)) Try.underlying22 1 (by decide)) (by unfold maxLen; omega) (by omega) hS.size ?_
      intro u9 w9 hown hgr hb _
      refine hK.out _ _ (hS.trans hb) (fun _ => ?_)
      clear hK K
      replace hS := hS.trans hb
      have H9 := Lib.hid hown
      clear hb hgr
      try simp only [Act.put, List.setIfInBounds_toArray, List.set_cons_zero, List.set_cons_succ]
      refine wpAnyH_take (i := 7) (oi := ⟨some 21, _, _, _, _, _⟩) (v := ?_) rfl (by kernel_rfl) (by kernel_rfl) (by kernel_rfl) (fun _ _ _ h => h) (Or.inl ⟨by rfl, ?_⟩) hS ?_
      rotate_left 1
      · intro w' hB; have hx := boxStays S12.out hB; have x0 := cell_of_row _ c1 0 _ _ _ hx; have x1 := cell_of_row _ c1 1 _ _ _ hx; have x2 := cell_of_row _ c1 2 _ _ _ hx; have x3 := cell_of_row _ c1 3 _ _ _ hx; have x4 := cell_of_row _ c1 4 _ _ _ hx; clear hx; (go_simp <;> with_reducible rfl)
      try simp only [Act.put, List.setIfInBounds_toArray, List.set_cons_zero, List.set_cons_succ]
      refine wpAnyH_done (by kernel_rfl) (NoPanic.normal ?_) _
    case' way71 =>
      go_simp
      refine hK.out _ _ (hS.alloc hS.size _) (fun _ => ?_)
      clear hK K
      refine wpAnyH_madeK hS hS.size ?_
      have hS0 := hS
      clear hS
      rintro w8 hw hS
      (try (replace H3 := Lib.hid (show World.ownsRow w8 v12.heap.size 47 6 u3 n (elsV L.tail) from by rw [hw]; exact H3.out.alloc _)))
      have H8 := Lib.hid (cellsAt_made (vs := elV (s, x)) hw)
      clear hw hS0
      try simp only [Act.put, List.setIfInBounds_toArray, List.set_cons_zero, List.set_cons_succ]
      refine wpAnyH_ready (rs := [1]) (by kernel_rfl) (by simp) (AllReadyH.cons (o := ⟨some 89, _, _, _, _, _⟩) rfl (fun K hK => ?_) AllReadyH.nil)
      refine step_app rfl _ _ _ _ rfl v12.heap.size 47 _ 6 64 ET.out (.slice none 0 0) 0 [] rfl ⟨rfl, Or.inl ⟨rfl, rfl⟩⟩ _ n (elsV L.tail) rfl ((CW2.out.below hS rfl).srcN hlt1 (elsV_one _) Try.underlying22 cw (by decide)) (by unfold maxLen; omega) (by omega) hS.size ?_
      intro u3 w3 hown hgr hb _
      refine hK.out _ _ (hS.trans hb) (fun _ => ?_)
      clear hK K
      replace hS := hS.trans hb
      have H3 : Hid (World.ownsRow _ v12.heap.size 47 6 u3 n (elsV L.tail)) := Lib.hid (by simpa using hown)
      (try (replace H8 := Lib.hid (H8.out.below (grown_none hgr) rfl)))
      clear hb hgr
      try simp only [Act.put, List.setIfInBounds_toArray, List.set_cons_zero, List.set_cons_succ]
      refine wpAnyH_ready (rs := [6]) (by kernel_rfl) (by simp) (AllReadyH.cons (o := ⟨some 94, _, _, _, _, _⟩) rfl (fun K hK => ?_) AllReadyH.nil)
      refine step_app rfl _ _ _ _ rfl v12.heap.size 47 _ 6 64 ET.out u3 n (elsV L.tail) rfl H3.out _ 1 (elV (s, x)) rfl (H8.out.srcN rfl (fun u hu => elsV_one [(s, x)] u (by simpa [elsV] using hu)) Try.underlying22 1 (by decide)) (by unfold maxLen; omega) (by omega) hS.size ?_
      intro u9 w9 hown hgr hb _
      refine hK.out _ _ (hS.trans hb) (fun _ => ?_)
      clear hK K
      replace hS := hS.trans hb
      have H9 := Lib.hid hown
      clear hb hgr
      try simp only [Act.put, List.setIfInBounds_toArray, List.set_cons_zero, List.set_cons_succ]
      refine wpAnyH_take (i := 7) (oi := ⟨some 21, _, _, _, _, _⟩) (v := ?_) rfl (by kernel_rfl) (by kernel_rfl) (by kernel_rfl) (fun _ _ _ h => h) (Or.inl ⟨by rfl, ?_⟩) hS ?_
      rotate_left 1
      · intro w' hB; have hx := boxStays S12.out hB; have x0 := cell_of_row _ c1 0 _ _ _ hx; have x1 := cell_of_row _ c1 1 _ _ _ hx; have x2 := cell_of_row _ c1 2 _ _ _ hx; have x3 := cell_of_row _ c1 3 _ _ _ hx; have x4 := cell_of_row _ c1 4 _ _ _ hx; clear hx; (go_simp <;> with_reducible rfl)
      try simp only [Act.put, List.setIfInBounds_toArray, List.set_cons_zero, List.set_cons_succ]
      refine wpAnyH_done (by kernel_rfl) (NoPanic.normal ?_) _
    all_goals
      have O9 := H9.out
      rw [show elsV L.tail ++ elV (s, x) = elsV (L.tail ++ [(s, x)]) from by rw [elsV_append]; rfl] at O9
      obtain ⟨a9, k9, rfl, _⟩ := own_slice O9
      have C9 : Hid (CellsAt w9 a9 (elsV (L.tail ++ [(s, x)]))) := Lib.hid (CellsAt.ownN O9)
      have N9 : Hid (n + 1 = (L.tail ++ [(s, x)]).length) := Lib.hid (by rw [List.length_append]; have := NW.out; simp at this ⊢; omega)
      have S9 := Lib.hid hS
      clear H9 H3 H8 O9 hS
      have HC : Hid (Chain [v12] v12) := Lib.hid (Chain.one v12)
      have hb := S9.out
      replace HC := Lib.hid (HC.out.push hb)
      clear hb
      have HX1 := HX1'
      have HX2 := HX2'
      go_upto_region 15 with (fail)
      try simp only [List.append]
      go_wp2_with fail
      refine (num_13 0 _).mono ?_
      rintro e _ ⟨rfl, rfl⟩
      go_wp2_with fail
      refine (num_13 0 _).mono ?_
      rintro e _ ⟨rfl, rfl⟩
      go_wp2_with fail
      refine (num_13 0 _).mono ?_
      rintro e _ ⟨rfl, rfl⟩
      go_wp2_with fail
      refine (num_13 0 _).mono ?_
      rintro e _ ⟨rfl, rfl⟩
      have kX10 := cell_of_row _ _ 0 _ _ _ (boxStays HX1.out (HC.out.to v12 (by simp)))
      have kX11 := cell_of_row _ _ 1 _ _ _ (boxStays HX1.out (HC.out.to v12 (by simp)))
      have kX12 := cell_of_row _ _ 2 _ _ _ (boxStays HX1.out (HC.out.to v12 (by simp)))
      have kX13 := cell_of_row _ _ 3 _ _ _ (boxStays HX1.out (HC.out.to v12 (by simp)))
      have kX14 := cell_of_row _ _ 4 _ _ _ (boxStays HX1.out (HC.out.to v12 (by simp)))
      have kX15 := cell_of_row _ _ 5 _ _ _ (boxStays HX1.out (HC.out.to v12 (by simp)))
      have kX20 := cell_of_row _ _ 0 _ _ _ (boxStays HX2.out (HC.out.to v12 (by simp)))
      have kX21 := cell_of_row _ _ 1 _ _ _ (boxStays HX2.out (HC.out.to v12 (by simp)))
      have kX22 := cell_of_row _ _ 2 _ _ _ (boxStays HX2.out (HC.out.to v12 (by simp)))
      have kX23 := cell_of_row _ _ 3 _ _ _ (boxStays HX2.out (HC.out.to v12 (by simp)))
      have kX24 := cell_of_row _ _ 4 _ _ _ (boxStays HX2.out (HC.out.to v12 (by simp)))
      have kX25 := cell_of_row _ _ 5 _ _ _ (boxStays HX2.out (HC.out.to v12 (by simp)))
      have eq := EQ.out
      go_wp2_with fail
      clear eq
      refine (ref9_SameElements (L.tail ++ [(s, x)]) (L.tail ++ [(s, x)]) _ _ ne (n + 1) _ _ _ (XE1.out.below (HC.out.to v12 (by simp)) rfl) (C9.out.below (HC.out.to w9 (by simp)) rfl) NE.out.symm N9.out (by have := NE.out; have := N9.out; omega)).mono ?_
      rintro e z1 ⟨rfl, hb⟩
      clear kX10 kX11 kX12 kX13 kX14 kX15 kX20 kX21 kX22 kX23 kX24 kX25
      replace HC := Lib.hid (HC.out.push hb)
      clear hb
      rw [decide_eq_true rfl]
      go_wp2_with fail
      go_ret
      exact ⟨rfl, BE1.out.trans ((HC.out.to v12 (by simp)).mono BE1.out.size)⟩
end Go.Proofs.Ytnpiepimajippaa
