/- Walks: lists of numbers, read by the program and by the reference. -/
import Derived.Test.YtbgnkdbbkkoinaaWireR3
import Derived.Test.YtbgnkdbbkkoinaaFn
namespace Go.Proofs.Ytbgnkdbbkkoinaa
open Go.RowKit Wire
/-- One thing behind the other, till one is refused. -/
def many {α : Type} (one : Nat → α × Nat × Nat) : Nat → Nat → List α × Nat × Nat
  | 0, p => ([], p, 0)
  | n + 1, p => if (one p).2.2 = 0 then ((one p).1 :: (many one n (one p).2.1).1, (many one n (one p).2.1).2) else ([(one p).1], (one p).2.1, (one p).2.2)
/-- What a list's reading answers: with count c (what count or the like answered). -/
def listOut {α : Type} (one : Nat → α × Nat × Nat) (p : Nat) (c : Nat × Nat × Nat) : List α × Nat × Nat :=
  if c.2.2 = 0 then (if (many one c.1 c.2.1).2.2 = 0 then many one c.1 c.2.1 else ([], p, (many one c.1 c.2.1).2.2)) else ([], p, c.2.2)
/-- Where a list's reading stands behind some rounds. -/
def Midway {α : Type} (one : Nat → α × Nat × Nat) (n p0 : Nat) (i : Nat) (xs : List α) (q er : Nat) : Prop :=
  xs.length = i ∧ (er = 0 → i ≤ n ∧ p0 + i ≤ q ∧ many one n p0 = (xs ++ (many one (n - i) q).1, (many one (n - i) q).2)) ∧ (er ≠ 0 → p0 + i ≤ q + 1 ∧ many one n p0 = (xs, q, er))
theorem Midway.start {α : Type} (one : Nat → α × Nat × Nat) (n p0 : Nat) : Midway one n p0 0 [] p0 0 :=
  ⟨rfl, fun _ => ⟨Nat.zero_le _, Nat.le_refl _, by simp⟩, fun h => absurd rfl h⟩
theorem Midway.next {α : Type} {one : Nat → α × Nat × Nat} {n p0 i : Nat} {xs : List α} {q : Nat} (hadv : ∀ p, (one p).2.2 = 0 → p < (one p).2.1) (hge : ∀ p, p ≤ (one p).2.1) (h : Midway one n p0 i xs q 0) (hi : i < n) :
    Midway one n p0 (i + 1) (xs ++ [(one q).1]) (one q).2.1 (one q).2.2 := by
  obtain ⟨h1, h2, _⟩ := h
  obtain ⟨h3, h5, h4⟩ := h2 rfl
  have e : n - i = (n - (i + 1)) + 1 := by omega
  rw [e] at h4
  have hm : many one (n - (i + 1) + 1) q = if (one q).2.2 = 0 then ((one q).1 :: (many one (n - (i + 1)) (one q).2.1).1, (many one (n - (i + 1)) (one q).2.1).2) else ([(one q).1], (one q).2.1, (one q).2.2) := rfl
  rw [hm] at h4
  clear hm
  have := hge q
  refine ⟨by simp [h1], fun he => ⟨by omega, by have := hadv q he; omega, ?_⟩, fun he => ⟨by omega, ?_⟩⟩
  · rw [if_pos he] at h4; rw [h4]; simp
  · rw [if_neg he] at h4; exact h4
theorem Midway.last {α : Type} {one : Nat → α × Nat × Nat} {n p0 i : Nat} {xs : List α} {q : Nat} (h : Midway one n p0 i xs q 0) (hi : ¬ i < n) : many one n p0 = (xs, q, 0) := by
  obtain ⟨_, h2, _⟩ := h
  obtain ⟨h3, _, h4⟩ := h2 rfl
  rw [h4, show n - i = 0 from by omega]
  simp [many]
theorem numOut_adv (l : List UInt8) (p : Nat) (h : (numOut l p).2.2 = 0) : p < (numOut l p).2.1 := by
  unfold numOut at h ⊢
  cases hr : rd (l.drop p) 0 0 with
  | none => rw [hr] at h; simp at h
  | some x => obtain ⟨v, j⟩ := x; have := rd_back _ _ _ hr; simp only; omega
theorem numOut_le (l : List UInt8) (p : Nat) (hp : p ≤ l.length) : (numOut l p).2.1 ≤ l.length := by
  unfold numOut
  cases hr : rd (l.drop p) 0 0 with
  | none => exact hp
  | some x => obtain ⟨v, j⟩ := x; have := rd_back _ _ _ hr; simp at this ⊢; omega
def u64s (xs : List Nat) : List Value := xs.map fun (n : Nat) => Value.int .u64 (n : Int)
theorem info_u64 : (Try.prog.info? 22).map (fun i => (i.zero, i.size, i.bytes)) = some (some (.int .u64 0), 1, 8) := by kernel_rfl
theorem u64T : ElemT Try.prog 87 22 (.int .u64 0) 1 8 := ElemT.mk Try.underlying87 info_u64 rfl
theorem src_u64 (w : World) (t : TypeId) (n : Nat) : Src Try.prog 1 87 (.slice (some ⟨w.heap.size, 0, none⟩) 1 1) 1 (u64s [n]) (w.alloc (.cells #[.int .u64 (n : Int)] t)) := by
  refine Src.ofSlice _ Try.underlying87 ⟨w.heap.size, 0, none⟩ 1 1 (u64s [n]) (by simp [u64s]) (fun j u hu => ?_) (fun u hu => ?_)
  · have hj : j = 0 := by
      have := (List.getElem?_eq_some_iff.1 hu).1
      simp [u64s] at this
      omega
    subst hj
    rw [Addr_add, cell_new]
    simpa [u64s] using hu
  · simp [u64s] at hu
    subst hu
    rfl
theorem wpList_app8 {w : World} {ops : Array Oper} {rest : List Oper} {o : Oper} {a : Act} {Q : Exit → Act → World → Prop} (hgd : o.guard = none) (s x : Operand)
    (ho : o.op = .call { callee := .builtin .append, args := #[s, x], argTypes := #[87, 87] })
    (base : Nat) (v : Value) (l : List Nat) (hv : a.eval s = v) (hown : w.ownsRow base 22 1 v l.length (u64s l))
    (xv : Value) (n : Nat) (hx : a.eval x = xv) (hs : Src Try.prog 1 87 xv 1 (u64s [n]) w)
    (hlen : l.length ≤ 1048577) (hbase : base ≤ w.heap.size)
    (h : ∀ v' w', w'.ownsRow base 22 1 v' (l ++ [n]).length (u64s (l ++ [n])) → Below base w w' → wpList Try.prog ops Q rest (a.put o.dst v') w') : wpList Try.prog ops Q (o :: rest) a w :=
  wpList_app hgd s x _ _ ho base 22 (.int .u64 0) 1 8 u64T v l.length (u64s l) hv hown xv 1 (u64s [n]) hx hs (by omega) (by omega) hbase
    fun v' w' g1 _ g3 _ => h v' w' (by rw [List.length_append]; simpa [u64s] using g1) g3
theorem Reads.past {T : TypeId} {w w2 w3 : World} {g : Nat} {a : Option Addr} {cap : Nat} {l : List UInt8} {q B : Nat} (h : Reads T w g a cap l q w2) (hb : Below B w2 w3) (_hlt : g < w2.heap.size ∨ True) (hB : w.heap.size ≤ B) (hg : g < B) (hbytes : ∀ i (hi : i < l.length), ∃ b off, a = some ⟨b, off, none⟩ ∧ b < B) : Reads T w g a cap l q w3 := by
  refine ⟨⟨(hb.block g hg).trans h.rd.row, ?_, h.rd.here, h.rd.max, h.rd.fits⟩, ⟨hb.os.trans h.grown.os, hb.tape.trans h.grown.tape, hb.output.trans h.grown.output, Nat.le_trans h.grown.size hb.size, fun k hk hne => (hb.block k (by omega)).trans (h.grown.block k hk hne)⟩⟩
  intro i hi
  obtain ⟨b, off, e, hc⟩ := h.rd.bytes i hi
  obtain ⟨b', off', e', hlt⟩ := hbytes i hi
  rw [e] at e'
  cases e'
  exact ⟨b, off, e, by rw [hb.cell (p := ⟨b, off + i, none⟩) hlt]; exact hc⟩
section
variable {w : World} {g : Nat} {ad : Option Addr} {cap : Nat} {l : List UInt8} {p : Nat}
theorem numOut_lt2 (l : List UInt8) (p : Nat) : ((numOut l p).1 : Int) ≤ 18446744073709551615 := by have := numOut_lt l p; omega
set_option maxRecDepth 20000 in
set_option maxHeartbeats 400000 in
theorem take_u64 {ad : Addr} (m : Int) (hm : m ≤ 9223372036854775807) (hl : l.length ≤ 1048576) (h : wRd w g (some ad) cap l p) :
    Calls Try.prog 44 #[.pointer (some ⟨g, 0, none⟩), .int .i64 m, .func (.func 20) #[] #[]] w fun e w' =>
    ∃ v, e = .returned (.tuple #[v, .int .i64 ((listOut (numOut l) p (cntOut l p m)).2.2 : Int)]) ∧ w'.ownsRow w.heap.size 22 1 v (listOut (numOut l) p (cntOut l p m)).1.length (u64s (listOut (numOut l) p (cntOut l p m)).1) ∧
      Reads 73 w g (some ad) cap l (listOut (numOut l) p (cntOut l p m)).2.1 w' := by
  have h1 := h.c1
  have HR := Lib.hid h; clear h
  have HO : Hid (listOut (numOut l) p (cntOut l p m) = if (cntOut l p m).2.2 = 0 then (if (many (numOut l) (cntOut l p m).1 (cntOut l p m).2.1).2.2 = 0 then many (numOut l) (cntOut l p m).1 (cntOut l p m).2.1 else ([], p, (many (numOut l) (cntOut l p m).1 (cntOut l p m).2.1).2.2)) else ([], p, (cntOut l p m).2.2)) := Lib.hid rfl
  obtain ⟨o, ho⟩ : ∃ o, o = listOut (numOut l) p (cntOut l p m) := ⟨_, rfl⟩
  rw [← ho] at HO ⊢
  clear ho
  have en := eql_func Try.underlying90
  have hcl := cntOut_le l p m
  go_enter Try.func44, Try.ntmps44
  go_wp2_with fail
  refine (rd_there HR.out).mono ?_
  rintro e w1 ⟨rfl, rfl⟩
  go_wp2_with fail
  refine (rd_count m hm HR.out).mono ?_
  rintro e w1 ⟨rfl, hr⟩
  have HR1 := Lib.hid hr; clear hr h1
  generalize cntOut l p m = x at *
  obtain ⟨n, p0, er0⟩ := x
  simp only at *
  by_cases he0 : er0 = 0
  · subst he0
    replace HO : Hid (o = if (many (numOut l) n p0).2.2 = 0 then many (numOut l) n p0 else ([], p, (many (numOut l) n p0).2.2)) := Lib.hid (by rw [HO.out, if_pos rfl])
    rw [show (((0 : Nat) : Int)) = 0 from rfl]
    go_wp2_with fail
    have HG0 : Hid (Reads 73 w g (some ad) cap l p0 (w1.alloc (.cells #[] 22))) := Lib.hid ⟨HR1.out.rd.alloc _, HR1.out.grown.trans (World.grownBy_alloc _ _ _)⟩
    have HO0 : Hid ((w1.alloc (.cells #[] 22)).ownsRow w1.heap.size 22 1 (.slice (some ⟨w1.heap.size, 0, none⟩) 0 0) 0 (u64s [])) := Lib.hid (own_new w1 w1.heap.size 22 [] (Nat.le_refl _) (by simp))
    have HZ : Hid (w.heap.size ≤ w1.heap.size) := Lib.hid HR1.out.grown.size
    have HLT : Hid (g < w.heap.size) := Lib.hid HR.out.lt
    have HBY : Hid (∀ i (hi : i < l.length), ∃ b off, some ad = some ⟨b, off, none⟩ ∧ b < w1.heap.size) := Lib.hid (fun i hi => by obtain ⟨b, off, e, hc⟩ := HR1.out.rd.bytes i hi; exact ⟨b, off, e, cell_lt hc⟩)
    go_loopw [10, 11, 12] (fun e v i wr => ∃ (er k q : Nat) (xs : List Nat), e = .int .i64 (er : Int) ∧ i = .int .i64 (k : Int) ∧ Midway (numOut l) n p0 k xs q er ∧ wr.ownsRow w1.heap.size 22 1 v xs.length (u64s xs) ∧ Reads 73 w g (some ad) cap l q wr ∧ w1.heap.size ≤ wr.heap.size) (fun _ _ i _ => l.length + 1 - (intOf i).toNat)
    case atStart => exact ⟨0, 0, p0, [], rfl, rfl, Midway.start _ _ _, HO0.out, HG0.out, by simp⟩
    case round =>
      obtain ⟨er, k, q, xs, rfl, rfl, hmid, hown, hr, hsz⟩ := hrel
      have HM := Lib.hid hmid; clear hmid
      have HOW := Lib.hid hown; clear hown
      have HRr := Lib.hid hr; clear hr
      have hxl : xs.length ≤ 1048577 := by
        have h1 := HM.out.1
        have h2 := HRr.out.rd.here
        by_cases he : er = 0
        · have := (HM.out.2.1 he).2.1; omega
        · have := (HM.out.2.2 he).1; omega
      have hk : k ≤ l.length + 1 := by
        have h1 := HM.out.1
        have h2 := HRr.out.rd.here
        by_cases he : er = 0
        · have := (HM.out.2.1 he).2.1; omega
        · have := (HM.out.2.2 he).1; omega
      by_cases he : er = 0
      · subst he
        have hd0 : ((((0 : Nat) : Int)) == 0) = true := by decide
        by_cases hkn : k < n
        · have hdk : decide ((k : Int) < (n : Int)) = true := by simpa using hkn
          have hk2 : k < l.length + 1 := by have := HM.out.1; have := (HM.out.2.1 rfl).2.1; have h2 := HRr.out.rd.here; omega
          go_wp2_with fail
          refine (rd_Number HRr.out.rd).mono ?_
          rintro e w2 ⟨rfl, hr⟩
          have HN := Lib.hid (HM.out.next (numOut_adv l) (numOut_ge l) hkn)
          have HG2 : Hid (wr.grownBy w2 (some g)) := Lib.hid hr.grown
          have HR2 : Hid (Reads 73 w g (some ad) cap l (numOut l q).2.1 w2) := Lib.hid (HRr.out.trans hr)
          have HO2 : Hid (w2.ownsRow w1.heap.size 22 1 u11 xs.length (u64s xs)) := Lib.hid (own_grown HOW.out hr.grown (fun k hk e => by have := (HOW.out.lt k hk).1; cases e; have := HZ.out; have := HLT.out; omega))
          clear hr
          generalize numOut l q = y at *
          have HS2 : Hid (w1.heap.size ≤ w2.heap.size) := Lib.hid (Nat.le_trans hsz HG2.out.size)
          have HSRC : Hid (Src Try.prog 1 87 (.slice (some ⟨w2.heap.size, 0, none⟩) 1 1) 1 (u64s [y.1]) (w2.alloc (.cells #[.int .u64 (y.1 : Int)] 22))) := Lib.hid (src_u64 w2 _ y.1)
          go_wp2_with (at_builtin; refine wpList_app8 rfl _ _ rfl w1.heap.size u11 xs rfl (HO2.out.alloc _) _ y.1 rfl HSRC.out hxl (by have := HS2.out; simp; omega) ?_; intro v3 w3 hown3 hb3)
          have HO3 := Lib.hid hown3; clear hown3
          have HB3 : Hid (Below w1.heap.size w2 w3) := Lib.hid ((((Below.refl _ _).alloc HS2.out _)).trans hb3); clear hb3
          have HR3 : Hid (Reads 73 w g (some ad) cap l y.2.1 w3) := Lib.hid (HR2.out.past HB3.out (.inr trivial) HZ.out (by have := HLT.out; have := HZ.out; omega) HBY.out)
          go_wp2_with fail
          go_roundw
          case rel => exact ⟨y.2.2, k + 1, y.2.1, xs ++ [y.1], rfl, by go_num, HN.out, HO3.out, HR3.out, Nat.le_trans HS2.out HB3.out.size⟩
          case measure => simp [intOf]; omega
        · have hdk : decide ((k : Int) < (n : Int)) = false := by simpa using hkn
          have HN := Lib.hid (HM.out.last hkn)
          have HB' : Hid (o = (xs, q, 0)) := Lib.hid (by rw [HO.out, HN.out, if_pos rfl])
          go_wp2_with fail
          go_ret2
          rw [HB'.out]
          exact ⟨_, rfl, own_mono HOW.out HZ.out, HRr.out⟩
      · have hne : (((er : Nat) : Int) == 0) = false := by simp; omega
        have hne2 : (((er : Nat) : Int) != 0) = true := by simp; omega
        have HN := Lib.hid (HM.out.2.2 he).2
        have HB' : Hid (o = ([], p, er)) := Lib.hid (by rw [HO.out, HN.out, if_neg he])
        have hf1 := HRr.out.rd.f1
        have h1 := HRr.out.rd.c1
        go_wp2_with fail
        go_ret2
        rw [HB'.out]
        exact ⟨_, rfl, World.ownsRow_nil _ _ _ _, HRr.out.trans (Reads.putd HRr.out.rd 0 p HR.out.here _ rfl)⟩
  · have HB' : Hid (o = ([], p, er0)) := Lib.hid (by rw [HO.out, if_neg he0])
    have hne : (((er0 : Nat) : Int) == 0) = false := by simp; omega
    have hne2 : (((er0 : Nat) : Int) != 0) = true := by simp; omega
    have HG0 : Hid (Reads 73 w g (some ad) cap l p0 (w1.alloc (.cells #[] 22))) := Lib.hid ⟨HR1.out.rd.alloc _, HR1.out.grown.trans (World.grownBy_alloc _ _ _)⟩
    go_wp2_with fail
    generalize w1.alloc (.cells #[] 22) = w2 at *
    have hf1 := HG0.out.rd.f1
    have h1 := HG0.out.rd.c1
    go_loop [10, 11, 12] (fun e _ _ => e = .int .i64 (er0 : Int)) (fun _ _ _ => 0)
    case atStart => rfl
    case round =>
      subst hrel
      go_wp2_with fail
      go_ret2
      rw [HB'.out]
      exact ⟨_, rfl, World.ownsRow_nil _ _ _ _, HG0.out.trans (Reads.putd HG0.out.rd 0 p HR.out.here _ rfl)⟩
end
end Go.Proofs.Ytbgnkdbbkkoinaa

