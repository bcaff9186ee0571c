/- Walks: a pair, read; a list of pairs, read. -/
import Derived.Test.YtbgnkdbbkkoinaaWireL3
namespace Go.Proofs.Ytbgnkdbbkkoinaa
open Go.RowKit Wire
theorem own_new0 (w : World) (base : Nat) (e : TypeId) (size : Nat) (hb : base ≤ w.heap.size) : (w.alloc (.cells #[] e)).ownsRow base e size (.slice (some ⟨w.heap.size, 0, none⟩) 0 0) 0 [] :=
  ⟨by simp, .inr ⟨w.heap.size, 0, #[], rfl, hb, heap_alloc_new w _, Nat.le_refl _, Nat.zero_le _, by simp, by simp⟩⟩
theorem info_two : (Try.prog.info? 51).map (fun i => (i.zero, i.size, i.bytes)) = some (some (.agg #[.int .u64 0, .int .u64 0]), 2, 16) := by kernel_rfl
theorem twoT : ElemT Try.prog 50 51 (.agg #[.int .u64 0, .int .u64 0]) 2 16 := ElemT.mk Try.underlying50 info_two rfl
theorem src_two' (w : World) (t : TypeId) (q : Nat × Nat) (x y : Int) (hx : x = q.1) (hy : y = q.2) : Src Try.prog 2 50 (.slice (some ⟨w.heap.size, 0, none⟩) 1 1) 1 (pcs [q]) (w.alloc (.cells #[.int .u64 x, .int .u64 y] t)) := by
  subst hx hy
  exact (PairsAt.fresh w t [q] [.int .u64 (q.1 : Int), .int .u64 (q.2 : Int)] rfl).src Try.underlying50 1
theorem src_two (w : World) (t : TypeId) (q : Nat × Nat) : Src Try.prog 2 50 (.slice (some ⟨w.heap.size, 0, none⟩) 1 1) 1 (pcs [q]) (w.alloc (.cells #[.int .u64 (q.1 : Int), .int .u64 (q.2 : Int)] t)) := src_two' w t q _ _ rfl rfl
theorem wpList_app16 {w : World} {ops : Array Oper} {rest : List Oper} {o : Oper} {a : Act} {Q : Exit → Act → World → Prop} (hgd : o.guard = none) (s x : Operand)
    (ho : o.op = .call { callee := .builtin .append, args := #[s, x], argTypes := #[50, 50] })
    (base : Nat) (v : Value) (l : List (Nat × Nat)) (hv : a.eval s = v) (hown : w.ownsRow base 51 2 v l.length (pcs l))
    (xv : Value) (m : List (Nat × Nat)) (hx : a.eval x = xv) (hs : Src Try.prog 2 50 xv m.length (pcs m) w)
    (hlen : l.length + m.length ≤ 67108864) (hbase : base ≤ w.heap.size)
    (h : ∀ v' w', w'.ownsRow base 51 2 v' (l ++ m).length (pcs (l ++ m)) → Below base w w' → wpList Try.prog ops Q rest (a.put o.dst v') w') : wpList Try.prog ops Q (o :: rest) a w :=
  wpList_app hgd s x _ _ ho base 51 (.agg #[.int .u64 0, .int .u64 0]) 2 16 twoT v l.length (pcs l) hv hown xv m.length (pcs m) hx hs (by omega) (by omega) hbase
    fun v' w' g1 _ g3 _ => h v' w' (by rw [List.length_append, pcs_append]; exact g1) g3
theorem wpList_app16p {w : World} {ops : Array Oper} {rest : List Oper} {o : Oper} {a : Act} {Q : Exit → Act → World → Prop} (hgd : o.guard = none) (s x : Operand)
    (ho : o.op = .call { callee := .builtin .append, args := #[s, x], argTypes := #[50, 50] })
    (base : Nat) (v : Value) (l : List (Nat × Nat)) (hv : a.eval s = v) (hown : w.ownsRow base 51 2 v l.length (pcs l))
    (xv : Value) (q : Nat × Nat) (hx : a.eval x = xv) (hs : Src Try.prog 2 50 xv 1 (pcs [q]) w)
    (hlen : l.length + 1 ≤ 67108864) (hbase : base ≤ w.heap.size)
    (h : ∀ gm capm w', l.length + 1 ≤ capm → base ≤ gm → gm < w'.heap.size → w'.ownsRow base 51 2 (.slice (some ⟨gm, 0, none⟩) (l.length + 1) capm) (l ++ [q]).length (pcs (l ++ [q])) → Below base w w' → wpList Try.prog ops Q rest (a.put o.dst (.slice (some ⟨gm, 0, none⟩) (l.length + 1) capm)) w') : wpList Try.prog ops Q (o :: rest) a w :=
  wpList_app16 hgd s x ho base v l hv hown xv [q] hx hs hlen hbase fun v' w' g1 g2 => by
    obtain ⟨gm, capm, rfl, h1, h2, h3, _⟩ := own_form g1 (by simp)
    have e : (l ++ [q]).length = l.length + 1 := by simp
    simp only [e] at g1 h3 ⊢
    exact h gm capm w' h3 h1 h2 (by rw [e]; exact g1) g2
theorem set_grown (w : World) (X o : Nat) (v : Value) : w.grownBy (w.setCell ⟨X, o, none⟩ v) (some X) := ⟨rfl, rfl, rfl, by simp [World.setCell], fun k hk hne => Below.heap_setCell _ _ _ _ (fun e => hne (by rw [e]))⟩
theorem own_two {w : World} {base size n : Nat} {e : TypeId} {v : Value} {xs : List Value} (h : w.ownsRow base e size v n xs) (X : Nat) (x y : Value) (hX : ∀ k, v.ownBlock = some k → k ≠ X) : ((w.setCell ⟨X, 0, none⟩ x).setCell ⟨X, 1, none⟩ y).ownsRow base e size v n xs :=
  own_grown (own_grown h (set_grown _ _ _ _) fun k hk e => hX k hk (by simpa using e.symm)) (set_grown _ _ _ _) fun k hk e => hX k hk (by simpa using e.symm)
/-- A pair is stored into a block of the call's own. -/
theorem two_put {T t : TypeId} {w w2 : World} {g X : Nat} {a : Option Addr} {cap : Nat} {l : List UInt8} {q : Nat} {z0 z1 : Int} (h : Reads T w g a cap l q w2) (hx : w2.heap[X]? = some (.cells #[.int .u64 z0, .int .u64 z1] t (0, 0))) (hX : w.heap.size ≤ X) (hg : g < w.heap.size) (x y : Int) :
    Reads T w g a cap l q ((w2.setCell ⟨X, 0, none⟩ (.int .u64 x)).setCell ⟨X, 1, none⟩ (.int .u64 y)) ∧ ((w2.setCell ⟨X, 0, none⟩ (.int .u64 x)).setCell ⟨X, 1, none⟩ (.int .u64 y)).heap[X]? = some (.cells #[.int .u64 x, .int .u64 y] t (0, 0)) := by
  have h1 := heap_setCell_same w2 X 0 _ t (.int .u64 x) hx
  have h2 := heap_setCell_same _ X 1 _ t (.int .u64 y) h1
  have g1 : w2.grownBy (w2.setCell ⟨X, 0, none⟩ (.int .u64 x)) (some X) := ⟨rfl, rfl, rfl, by simp [World.setCell], fun k hk hne => Below.heap_setCell _ _ _ _ (fun e => hne (by rw [e]))⟩
  have g2 : (w2.setCell ⟨X, 0, none⟩ (.int .u64 x)).grownBy ((w2.setCell ⟨X, 0, none⟩ (.int .u64 x)).setCell ⟨X, 1, none⟩ (.int .u64 y)) (some X) := ⟨rfl, rfl, rfl, by simp [World.setCell], fun k hk hne => Below.heap_setCell _ _ _ _ (fun e => hne (by rw [e]))⟩
  have g3 := g1.trans g2
  refine ⟨⟨⟨?_, ?_, h.rd.here, h.rd.max, h.rd.fits⟩, ?_⟩, by simpa using h2⟩
  · exact (g3.block g h.rd.lt (fun e => by cases e; omega)).trans h.rd.row
  · refine h.rd.bytes.grown g3 (fun b off c hc e => ?_)
    cases e
    rw [cell_of_row _ _ _ _ _ _ hx] at hc
    match off with
    | 0 => simp at hc
    | 1 => simp at hc
    | n + 2 => simp at hc
  · exact ⟨g3.os.trans h.grown.os, g3.tape.trans h.grown.tape, g3.output.trans h.grown.output, Nat.le_trans h.grown.size g3.size, fun k hk hne => (g3.block k (Nat.lt_of_lt_of_le hk h.grown.size) (fun e => by cases e; omega)).trans (h.grown.block k hk hne)⟩
section
variable {w : World} {g : Nat} {ad : Addr} {cap : Nat} {l : List UInt8} {p : Nat}
set_option maxRecDepth 20000 in
theorem pair_ok (h : wRd w g (some ad) cap l p) : Calls Try.prog 30 #[.pointer (some ⟨g, 0, none⟩)] w fun e w' =>
    e = .returned (.tuple #[.agg #[.int .u64 ((pairOut l p).1.1 : Int), .int .u64 ((pairOut l p).1.2 : Int)], .int .i64 ((pairOut l p).2.2 : Int)]) ∧ Reads 73 w g (some ad) cap l (pairOut l p).2.1 w' := by
  have HR := Lib.hid h; clear h
  have HP : Hid (pairOut l p = if (numOut l p).2.2 = 0 then (((numOut l p).1, (numOut l (numOut l p).2.1).1), (numOut l (numOut l p).2.1).2.1, (numOut l (numOut l p).2.1).2.2) else ((0, 0), (numOut l p).2.1, (numOut l p).2.2)) := Lib.hid rfl
  obtain ⟨o, ho⟩ : ∃ o, o = pairOut l p := ⟨_, rfl⟩
  rw [← ho] at HP ⊢
  clear ho
  have hr0 := Try.results30
  go_enter Try.func30, Try.ntmps30
  go_wp2_with fail
  have HX := Lib.hid (heap_alloc_new w (.cells #[.int .u64 0, .int .u64 0] 51))
  have HR0 : Hid (Reads 73 w g (some ad) cap l p (w.alloc (.cells #[.int .u64 0, .int .u64 0] 51))) := Lib.hid ⟨HR.out.alloc _, World.grownBy_alloc _ _ _⟩
  have HLT : Hid (g < w.heap.size) := Lib.hid HR.out.lt
  generalize w.alloc (.cells #[.int .u64 0, .int .u64 0] 51) = w0 at *
  refine (rd_Number HR0.out.rd).mono ?_
  rintro e w1 ⟨rfl, hr⟩
  have HX1 := Lib.hid (box_grown HX.out hr.grown (by have := HLT.out; omega))
  have HR1 := Lib.hid (HR0.out.trans hr); clear hr HX
  generalize hx : numOut l p = x at *
  replace hx := Lib.hid hx
  obtain ⟨a, q, er⟩ := x
  simp only at *
  by_cases he : er = 0
  · subst he
    replace HP : Hid (o = ((a, (numOut l q).1), (numOut l q).2.1, (numOut l q).2.2)) := Lib.hid (by rw [HP.out, if_pos rfl])
    go_wp2_with fail
    refine (rd_Number HR1.out.rd).mono ?_
    rintro e w2 ⟨rfl, hr⟩
    have HX2 := Lib.hid (box_grown HX1.out hr.grown (by have := HLT.out; omega))
    have HR2 := Lib.hid (HR1.out.trans hr); clear hr HX1
    generalize hx2 : numOut l q = y at *
    replace hx2 := Lib.hid hx2
    obtain ⟨b, q2, er2⟩ := y
    simp only at *
    obtain ⟨k0, k1⟩ := box2 HX2.out
    have f0 : w2.frozen? ⟨w.heap.size, 0, none⟩ = false := frozen_of_row _ _ _ _ _ HX2.out
    have f1 : w2.frozen? ⟨w.heap.size, 1, none⟩ = false := frozen_of_row _ _ _ _ _ HX2.out
    have HW := Lib.hid (two_put HR2.out HX2.out (Nat.le_refl _) HLT.out (a : Int) (b : Int))
    go_wp2_with fail
    clear k0 k1 f0 f1
    generalize (w2.setCell ⟨w.heap.size, 0, none⟩ (.int .u64 (a : Int))).setCell ⟨w.heap.size, 1, none⟩ (.int .u64 (b : Int)) = w3 at *
    obtain ⟨k0, k1⟩ := box2 HW.out.2
    refine bodyPost_ret (v := .tuple #[.agg #[.int .u64 (a : Int), .int .u64 (b : Int)], .int .i64 (er2 : Int)]) (by simp [results, Try.results30, go_sem, k0, k1]) rfl ?_
    rw [HP.out]
    exact ⟨rfl, HW.out.1⟩
  · have hne : (((er : Nat) : Int) == 0) = false := by simp; omega
    have hne2 : (((er : Nat) : Int) != 0) = true := by simp; omega
    have HP' : Hid (o = ((0, 0), q, er)) := Lib.hid (by rw [HP.out, if_neg he])
    obtain ⟨k0, k1⟩ := box2 HX1.out
    have f0 : w1.frozen? ⟨w.heap.size, 0, none⟩ = false := frozen_of_row _ _ _ _ _ HX1.out
    have f1 : w1.frozen? ⟨w.heap.size, 1, none⟩ = false := frozen_of_row _ _ _ _ _ HX1.out
    have HW := Lib.hid (two_put HR1.out HX1.out (Nat.le_refl _) HLT.out 0 0)
    go_wp2_with fail
    clear k0 k1 f0 f1
    generalize (w1.setCell ⟨w.heap.size, 0, none⟩ (.int .u64 0)).setCell ⟨w.heap.size, 1, none⟩ (.int .u64 0) = w3 at *
    obtain ⟨k0, k1⟩ := box2 HW.out.2
    refine bodyPost_ret (v := .tuple #[.agg #[.int .u64 0, .int .u64 0], .int .i64 (er : Int)]) (by simp [results, Try.results30, go_sem, k0, k1]) rfl ?_
    rw [HP'.out]
    exact ⟨rfl, HW.out.1⟩
set_option maxRecDepth 20000 in
set_option maxHeartbeats 400000 in
theorem take_pairs {ad : Addr} (m : Int) (hm : m ≤ 9223372036854775807) (hl : l.length ≤ 33554432) (h : wRd w g (some ad) cap l p) :
    Calls Try.prog 29 #[.pointer (some ⟨g, 0, none⟩), .int .i64 m, .func (.func 30) #[] #[]] w fun e w' =>
    ∃ v, e = .returned (.tuple #[v, .int .i64 ((listOut (pairOut l) p (cntOut l p m)).2.2 : Int)]) ∧ w'.ownsRow w.heap.size 51 2 v (listOut (pairOut l) p (cntOut l p m)).1.length (pcs (listOut (pairOut l) p (cntOut l p m)).1) ∧
      Reads 73 w g (some ad) cap l (listOut (pairOut l) p (cntOut l p m)).2.1 w' := by
  have h1 := h.c1
  have HR := Lib.hid h; clear h
  have HO : Hid (listOut (pairOut l) p (cntOut l p m) = if (cntOut l p m).2.2 = 0 then (if (many (pairOut l) (cntOut l p m).1 (cntOut l p m).2.1).2.2 = 0 then many (pairOut l) (cntOut l p m).1 (cntOut l p m).2.1 else ([], p, (many (pairOut l) (cntOut l p m).1 (cntOut l p m).2.1).2.2)) else ([], p, (cntOut l p m).2.2)) := Lib.hid rfl
  obtain ⟨o, ho⟩ : ∃ o, o = listOut (pairOut l) p (cntOut l p m) := ⟨_, rfl⟩
  rw [← ho] at HO ⊢
  clear ho
  have en := eql_func Try.underlying56
  have hcl := cntOut_le l p m
  go_enter Try.func29, Try.ntmps29
  go_wp2_with fail
  refine (rd_there HR.out).mono ?_
  rintro e w1 ⟨rfl, rfl⟩
  go_wp2_with fail
  refine (rd_count m hm HR.out).mono ?_
  rintro e w1 ⟨rfl, hr⟩
  have HR1 := Lib.hid hr; clear hr h1
  generalize cntOut l p m = x at *
  obtain ⟨n, p0, er0⟩ := x
  simp only at *
  by_cases he0 : er0 = 0
  · subst he0
    replace HO : Hid (o = if (many (pairOut l) n p0).2.2 = 0 then many (pairOut l) n p0 else ([], p, (many (pairOut l) n p0).2.2)) := Lib.hid (by rw [HO.out, if_pos rfl])
    rw [show (((0 : Nat) : Int)) = 0 from rfl]
    go_wp2_with fail
    have HG0 : Hid (Reads 73 w g (some ad) cap l p0 (w1.alloc (.cells #[] 51))) := Lib.hid ⟨HR1.out.rd.alloc _, HR1.out.grown.trans (World.grownBy_alloc _ _ _)⟩
    have HO0 : Hid ((w1.alloc (.cells #[] 51)).ownsRow w1.heap.size 51 2 (.slice (some ⟨w1.heap.size, 0, none⟩) 0 0) 0 (pcs [])) := Lib.hid (own_new0 w1 w1.heap.size 51 2 (Nat.le_refl _))
    have HZ : Hid (w.heap.size ≤ w1.heap.size) := Lib.hid HR1.out.grown.size
    have HLT : Hid (g < w.heap.size) := Lib.hid HR.out.lt
    have HBY : Hid (∀ i (hi : i < l.length), ∃ b off, some ad = some ⟨b, off, none⟩ ∧ b < w1.heap.size) := Lib.hid (fun i hi => by obtain ⟨b, off, e, hc⟩ := HR1.out.rd.bytes i hi; exact ⟨b, off, e, cell_lt hc⟩)
    go_loopw [10, 11, 12] (fun e v i wr => ∃ (er k q : Nat) (xs : List (Nat × Nat)), e = .int .i64 (er : Int) ∧ i = .int .i64 (k : Int) ∧ Midway (pairOut l) n p0 k xs q er ∧ wr.ownsRow w1.heap.size 51 2 v xs.length (pcs xs) ∧ Reads 73 w g (some ad) cap l q wr ∧ w1.heap.size ≤ wr.heap.size) (fun _ _ i _ => l.length + 1 - (intOf i).toNat)
    case atStart => exact ⟨0, 0, p0, [], rfl, rfl, Midway.start _ _ _, HO0.out, HG0.out, by simp⟩
    case round =>
      obtain ⟨er, k, q, xs, rfl, rfl, hmid, hown, hr, hsz⟩ := hrel
      have HM := Lib.hid hmid; clear hmid
      have HOW := Lib.hid hown; clear hown
      have HRr := Lib.hid hr; clear hr
      have hxl : xs.length ≤ 33554433 := by
        have h1 := HM.out.1
        have h2 := HRr.out.rd.here
        by_cases he : er = 0
        · have := (HM.out.2.1 he).2.1; omega
        · have := (HM.out.2.2 he).1; omega
      have hk : k ≤ l.length + 1 := by
        have h1 := HM.out.1
        have h2 := HRr.out.rd.here
        by_cases he : er = 0
        · have := (HM.out.2.1 he).2.1; omega
        · have := (HM.out.2.2 he).1; omega
      by_cases he : er = 0
      · subst he
        have hd0 : ((((0 : Nat) : Int)) == 0) = true := by decide
        by_cases hkn : k < n
        · have hdk : decide ((k : Int) < (n : Int)) = true := by simpa using hkn
          have hk2 : k < l.length + 1 := by have := HM.out.1; have := (HM.out.2.1 rfl).2.1; have h2 := HRr.out.rd.here; omega
          have HW0 : Hid (Reads 73 w g (some ad) cap l q (wr.alloc (.cells #[.int .u64 0, .int .u64 0] 51))) := Lib.hid ⟨HRr.out.rd.alloc _, HRr.out.grown.trans (World.grownBy_alloc _ _ _)⟩
          have HX0 := Lib.hid (heap_alloc_new wr (.cells #[.int .u64 0, .int .u64 0] 51))
          have HZr : Hid (w.heap.size ≤ wr.heap.size) := Lib.hid (Nat.le_trans HZ.out hsz)
          have HV : Hid (∀ k, u11.ownBlock = some k → w1.heap.size ≤ k ∧ k < wr.heap.size) := Lib.hid (fun k hk => HOW.out.lt k hk)
          have HO1 : Hid ((wr.alloc (.cells #[.int .u64 0, .int .u64 0] 51)).ownsRow w1.heap.size 51 2 u11 xs.length (pcs xs)) := Lib.hid (HOW.out.alloc _)
          have hszz : Hid ((wr.alloc (.cells #[.int .u64 0, .int .u64 0] 51)).heap.size = wr.heap.size + 1) := Lib.hid (by simp)
          go_wp2_with fail
          generalize wr.alloc (.cells #[.int .u64 0, .int .u64 0] 51) = w0 at *
          refine (pair_ok HW0.out.rd).mono ?_
          rintro e w2 ⟨rfl, hr⟩
          have HN := Lib.hid (HM.out.next (pairOut_adv l) (pairOut_ge l) hkn)
          have HX2 := Lib.hid (box_grown HX0.out hr.grown (by have := HLT.out; have := HZr.out; omega))
          have HR2 : Hid (Reads 73 w g (some ad) cap l (pairOut l q).2.1 w2) := Lib.hid (HW0.out.trans hr)
          have HO2 : Hid (w2.ownsRow w1.heap.size 51 2 u11 xs.length (pcs xs)) := Lib.hid (own_grown HO1.out hr.grown (fun k hk e => by have := (HV.out k hk).1; cases e; have := HZ.out; have := HLT.out; omega))
          have HS2 : Hid (wr.heap.size < w2.heap.size) := Lib.hid (by have := hr.grown.size; have := hszz.out; omega)
          clear hr HO1 HX0 HW0
          generalize pairOut l q = y at *
          obtain ⟨⟨x1, x2⟩, q2, e2⟩ := y
          simp only at HR2 HN ⊢
          obtain ⟨k0, k1⟩ := box2 HX2.out
          have f0 : w2.frozen? ⟨wr.heap.size, 0, none⟩ = false := frozen_of_row _ _ _ _ _ HX2.out
          have f1 : w2.frozen? ⟨wr.heap.size, 1, none⟩ = false := frozen_of_row _ _ _ _ _ HX2.out
          have HW := Lib.hid (two_put HR2.out HX2.out HZr.out HLT.out (x1 : Int) (x2 : Int))
          have HO3 : Hid (((w2.setCell ⟨wr.heap.size, 0, none⟩ (.int .u64 (x1 : Int))).setCell ⟨wr.heap.size, 1, none⟩ (.int .u64 (x2 : Int))).ownsRow w1.heap.size 51 2 u11 xs.length (pcs xs)) := Lib.hid (own_two HO2.out _ _ _ (fun k hk => by have := (HV.out _ hk).2; omega))
          have HSRC : Hid (Src Try.prog 2 50 (.slice (some ⟨((w2.setCell ⟨wr.heap.size, 0, none⟩ (.int .u64 (x1 : Int))).setCell ⟨wr.heap.size, 1, none⟩ (.int .u64 (x2 : Int))).heap.size, 0, none⟩) 1 1) 1 (pcs [(x1, x2)]) (((w2.setCell ⟨wr.heap.size, 0, none⟩ (.int .u64 (x1 : Int))).setCell ⟨wr.heap.size, 1, none⟩ (.int .u64 (x2 : Int))).alloc (.cells #[.int .u64 (x1 : Int), .int .u64 (x2 : Int)] 51))) := Lib.hid (src_two _ _ (x1, x2))
          have HSS : Hid (((w2.setCell ⟨wr.heap.size, 0, none⟩ (.int .u64 (x1 : Int))).setCell ⟨wr.heap.size, 1, none⟩ (.int .u64 (x2 : Int))).heap.size = w2.heap.size) := Lib.hid (by simp [World.setCell])
          rw [HSS.out] at HSRC
          go_wp2_with (at_builtin; refine wpList_app16 rfl _ _ rfl w1.heap.size u11 xs rfl (HO3.out.alloc _) _ [(x1, x2)] rfl HSRC.out (by simp; omega) (by have := HS2.out; simp; omega) ?_; intro v3 w3 hown3 hb3)
          have HO4 := Lib.hid hown3; clear hown3
          have HB3 : Hid (Below w1.heap.size ((w2.setCell ⟨wr.heap.size, 0, none⟩ (.int .u64 (x1 : Int))).setCell ⟨wr.heap.size, 1, none⟩ (.int .u64 (x2 : Int))) w3) := Lib.hid ((((Below.refl _ _).alloc (by have := HSS.out; have := HS2.out; omega) _)).trans hb3); clear hb3
          have HR3 : Hid (Reads 73 w g (some ad) cap l q2 w3) := Lib.hid (HW.out.1.past HB3.out (.inr trivial) HZ.out (by have := HLT.out; have := HZ.out; omega) HBY.out)
          clear k0 k1 f0 f1
          go_wp2_with fail
          go_roundw
          case rel => exact ⟨e2, k + 1, q2, xs ++ [(x1, x2)], rfl, by go_num, HN.out, HO4.out, HR3.out, by have := HB3.out.size; have := HSS.out; have := HS2.out; omega⟩
          case measure => simp [intOf]; omega
        · have hdk : decide ((k : Int) < (n : Int)) = false := by simpa using hkn
          have HN := Lib.hid (HM.out.last hkn)
          have HB' : Hid (o = (xs, q, 0)) := Lib.hid (by rw [HO.out, HN.out, if_pos rfl])
          go_wp2_with fail
          go_ret2
          rw [HB'.out]
          exact ⟨_, rfl, own_mono HOW.out HZ.out, HRr.out⟩
      · have hne : (((er : Nat) : Int) == 0) = false := by simp; omega
        have hne2 : (((er : Nat) : Int) != 0) = true := by simp; omega
        have HN := Lib.hid (HM.out.2.2 he).2
        have HB' : Hid (o = ([], p, er)) := Lib.hid (by rw [HO.out, HN.out, if_neg he])
        have hf1 := HRr.out.rd.f1
        have h1 := HRr.out.rd.c1
        go_wp2_with fail
        go_ret2
        rw [HB'.out]
        exact ⟨_, rfl, World.ownsRow_nil _ _ _ _, HRr.out.trans (Reads.putd HRr.out.rd 0 p HR.out.here _ rfl)⟩
  · have HB' : Hid (o = ([], p, er0)) := Lib.hid (by rw [HO.out, if_neg he0])
    have hne : (((er0 : Nat) : Int) == 0) = false := by simp; omega
    have hne2 : (((er0 : Nat) : Int) != 0) = true := by simp; omega
    have HG0 : Hid (Reads 73 w g (some ad) cap l p0 (w1.alloc (.cells #[] 51))) := Lib.hid ⟨HR1.out.rd.alloc _, HR1.out.grown.trans (World.grownBy_alloc _ _ _)⟩
    go_wp2_with fail
    generalize w1.alloc (.cells #[] 51) = w2 at *
    have hf1 := HG0.out.rd.f1
    have h1 := HG0.out.rd.c1
    go_loop [10, 11, 12] (fun e _ _ => e = .int .i64 (er0 : Int)) (fun _ _ _ => 0)
    case atStart => rfl
    case round =>
      subst hrel
      go_wp2_with fail
      go_ret2
      rw [HB'.out]
      exact ⟨_, rfl, World.ownsRow_nil _ _ _ _, HG0.out.trans (Reads.putd HG0.out.rd 0 p HR.out.here _ rfl)⟩
end
end Go.Proofs.Ytbgnkdbbkkoinaa

