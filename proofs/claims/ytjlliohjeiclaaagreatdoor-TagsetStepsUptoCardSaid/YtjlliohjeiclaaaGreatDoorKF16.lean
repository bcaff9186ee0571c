/- Words, contracts and walks that the proof stands on (TgSt TgD). -/
import Derived.Test.YtjlliohjeiclaaaGreatDoorKF1
import Derived.Deep.CutRange
import Derived.LoopIn
import Derived.LoopNIn
import Derived.Test.YtjlliohjeiclaaaGreatDoorKF11
import Derived.Test.YtjlliohjeiclaaaGreatDoorKF15
import Derived.Test.YtjlliohjeiclaaaGreatDoorKF5
import Derived.Test.YtjlliohjeiclaaaGreatDoorKF7
import Derived.Test.YtjlliohjeiclaaaGreatDoorKF8
namespace Go.Proofs.YtjlliohjeiclaaaGreatDoor
open Go.RowKit St Pm Kn
attribute [local go_sem] Oper.semAt_some
theorem num_11b (x : Int) (w : World) : Calls Tryz.prog 11 #[.int .i64 x] w fun e w' => e = .returned (.int .i64 x) ∧ Below w.heap.size w w' := (num_11 x w).mono fun _ _ ⟨h1, h2⟩ => ⟨h1, by rw [← h2]; exact Below.refl _ _⟩
theorem sameE_t (l : List Ev) (a b : Option Addr) (n c1 c2 : Nat) (w : World) (hl : CellsAt w a (elsV l)) (hm : CellsAt w b (elsV l)) (hn : n = l.length) (hb : n ≤ 9223372036854775807) :
 Calls Tryz.prog 30 #[.slice a n c1, .slice b n c2] w fun e w' => e = .returned (.bool true) ∧ Below w.heap.size w w' :=
 (ref9_SameElements l l a b n n c1 c2 w hl hm hn hn hb).mono fun _ _ ⟨h1, h2⟩ => ⟨by rw [h1, decide_eq_true rfl], h2⟩
theorem sameT_t (l : List ByteArray) (a b : Option Addr) (n c1 c2 : Nat) (w : World) (hl : CellsAt w a (txV l)) (hm : CellsAt w b (txV l)) (hn : n = l.length) (hb : n ≤ 9223372036854775807) :
 Calls Tryz.prog 43 #[.slice a n c1, .slice b n c2] w fun e w' => e = .returned (.bool true) ∧ Below w.heap.size w w' :=
 (ref9_SameTexts l l a b n n c1 c2 w hl hm hn hn hb).mono fun _ _ ⟨h1, h2⟩ => ⟨by rw [h1, decide_eq_true rfl], h2⟩
theorem may_tag {l : List Ev} (tr : Tr ByteArray) (w : World) (h : AtS w tr) (hT : Tag l tr) (hz : l.length ≤ 100000) :
 Calls Tryz.prog 19 #[.agg #[.pointer (pa tr)]] w fun e w' => e = .returned (.bool true) ∧ Below w.heap.size w w' :=
 (ts_May tr w h (by rw [hT.len]; exact hz) hT.keysT).mono fun _ _ ⟨h1, h2⟩ => ⟨by rw [h1, hT.good], h2⟩
theorem len_tag {l : List Ev} (tr : Tr ByteArray) (w : World) (h : AtS w tr) (hT : Tag l tr) :
 Calls Tryz.prog 12 #[.agg #[.pointer (pa tr)]] w fun e w' => e = .returned (.int .i64 (l.length : Int)) ∧ Below w.heap.size w w' :=
 (pm_MLenS tr w h).mono fun _ _ ⟨h1, h2⟩ => ⟨by rw [h1, hT.len], h2⟩
theorem all_nilE (W : World) (f : Nat) (env : Array Value) : (binOp .eql 68 (.func (.func f) #[] env) .nilFunc).run Tryz.prog W = .ok (.bool false) W := by
 have hp := Tryz.underlying68
 have h : ∀ d : Nat, (Op.equalIn (d + 1) 68 (.func (.func f) #[] env) .nilFunc).run Tryz.prog W = .ok false W := fun d => by simp [Op.equalIn, run_underlying hp]
 simp only [binOp]
 simp [Op.equal, Op.maxDepth, h 9999]
theorem wpListIn_store_mid {F : Fence} {nn : Nat} {P : Program} {w : World} {ops : Array Oper} {rest : List Oper} {o : Oper} {a : Act} {Q : Exit → Act → World → Prop} (hgd : o.guard = none) (ty : TypeId) (x y : Operand) (ho : o.op = .store ty x y)
 (b off : Nat) (cells : Array Value) (hx : a.eval x = .pointer (some ⟨b, off, none⟩)) (hy : a.eval y = .agg cells)
 (ht : w.there b off cells.size) (hi : (P.info? ty).map (·.size) = some cells.size) (h1 : cells.all (·.oneCell') = true)
 (h : wpListIn F nn P ops Q rest (a.put o.dst undef) (w.setCells b off cells.toList)) : wpListIn F nn P ops Q (o :: rest) a w := by
 refine wpListIn_plain hgd fun K hK' => ?_
 unfold Oper.wpIn
 refine ⟨?_, ?_⟩
 · simp [Oper.about, ho]
 · rw [Oper.semAt_plain F _ _ (by rw [ho]; intro c hc'; cases hc')]
   unfold execOp
   simp only [ho, hx, hy, Instr.storeAt, Instr.sureAddr, Sem.run_bind, Sem.run_pure, Result.andThen_ok, run_storeVar_mid w b off ty cells ht hi h1]
   exact hK' _ _ h
def ptS (g : Nat → Value) (y mb z T : Nat) : Array Value := #[g 0, g 1, .pointer (some ⟨y, 0, none⟩), .pointer (some ⟨y + 1, 0, none⟩), .pointer (some ⟨y + 1 + 1, 0, none⟩), g 5, g 6, g 7, g 8, .func (.func 68) #[] #[.pointer (some ⟨mb, 0, none⟩)], .pointer (some ⟨z, 0, none⟩), .pointer (some ⟨T, 0, none⟩), g 12, g 13, g 14, g 15, g 16, g 17, g 18, g 19, g 20, g 21, g 22, g 23, g 24, g 25, g 26, g 27, g 28, g 29, g 30, g 31, g 32, g 33, g 34, g 35, g 36, g 37, g 38, g 39, g 40, g 41, g 42, g 43, g 44, g 45, g 46, g 47, g 48, g 49, g 50, g 51, g 52, g 53, g 54, g 55, g 56, g 57, g 58, g 59, g 60, g 61, g 62, g 63, g 64, g 65, g 66, g 67, g 68, g 69, g 70, g 71, g 72, g 73, g 74, g 75, g 76, g 77, g 78, g 79, g 80, g 81, g 82, g 83, g 84, g 85, g 86, g 87, g 88, g 89, g 90, g 91, g 92, g 93, g 94, g 95, g 96, g 97, g 98, g 99, g 100, g 101, g 102, g 103, g 104, g 105, g 106, g 107, g 108, g 109, g 110, g 111, g 112, g 113, g 114, g 115, g 116, g 117]
structure TnJ (c T u B : Nat) (Ds : List Nat) (w : World) (n : Nat) (W : World) : Prop where
 cnt : Boxed W c 3 (.int .i64 (n : Int))
 trn : Boxed W T 3 (.int .i64 (u : Int))
 mrk : Facts (markF Ds) W
 bel : Below B w W
theorem tnJ_own {c T u B : Nat} {Ds : List Nat} {w : World} {N : Nat} (hB : B ≤ w.heap.size) (hN : B ≤ N) (hc : c < N) (hT : T < N) (hD : ∀ D ∈ Ds, D < N) : OwnFrom N (TnJ c T u B Ds w) := by
 rintro pre A A' row ⟨h1, h2, h3, h4⟩ hg hr
 exact ⟨own_block (β := Unit) hc () A A' row h1 hg hr, own_block (β := Unit) hT () A A' row h2 hg hr, facts_own (β := Unit) _ N (fun p hp => by obtain ⟨D, hD', rfl⟩ := List.mem_map.1 hp; exact hD D hD') () A A' row h3 hg hr, ownFrom_below (β := Unit) hB hN () A A' row h4 hg hr⟩
theorem TnJ.below {c T u B : Nat} {Ds : List Nat} {w : World} {n : Nat} {A A' : World} (h : TnJ c T u B Ds w n A) (hb : Below A.heap.size A A') (hB : B ≤ A.heap.size) : TnJ c T u B Ds w n A' :=
 ⟨boxStays h.cnt hb, boxStays h.trn hb, h.mrk.below hb, h.bel.trans (hb.mono hB)⟩
theorem own_objE {w : World} {base size n : Nat} {e : TypeId} {v : Value} {xs : List Value} (h : w.ownsRow base e size v n xs) {k : Nat} (hk : v.ownBlock = some k) : ∃ o, w.heap[k]? = some o ∧ o.isCells = true := by
 rcases h.2 with ⟨rfl, _⟩ | ⟨g, cap, cur, rfl, _, h2, _⟩
 · cases hk
 · cases hk
   exact ⟨_, h2, rfl⟩
theorem keepsFrom_rowE {B base size n : Nat} {e : TypeId} {v : Value} {xs : List Value} {A A' : World} (hg : A.grownBy A' v.ownBlock) (ho : A.ownsRow base e size v n xs) : KeepsFrom B A A' :=
 ⟨hg.size, fun k o _ h hc => (hg.block k (Array.getElem?_eq_some_iff.1 h).1 (fun e2 => by
  obtain ⟨o', h1, h2⟩ := own_objE ho e2.symm
  rw [h] at h1; cases h1; rw [hc] at h2; cases h2)).trans h⟩
theorem keepE_row {M base size n : Nat} {e : TypeId} {v : Value} {xs : List Value} {A A' : World} (hg : A.grownBy A' v.ownBlock) (ho : A.ownsRow base e size v n xs) : KeepE M (fun _ => False) (fun t => t = e) A A' :=
 ⟨hg.os, hg.tape, hg.output, hg.size, fun _ h => h.elim, fun k o _ h hc => (hg.block k (Array.getElem?_eq_some_iff.1 h).1 (fun e2 => by
  rcases ho.2 with ⟨rfl, _⟩ | ⟨g, cap, cur, rfl, _, h2, _⟩
  · cases e2
  · have e3 : k = g := Option.some.inj e2
    subst e3
    rw [h] at h2
    cases h2
    exact hc _ _ _ rfl rfl)).trans h⟩
theorem TnJ.row {c T u B N size m : Nat} {e : TypeId} {v : Value} {xs : List Value} {Ds : List Nat} {w : World} {n : Nat} {A A' : World} (h : TnJ c T u B Ds w n A) (hg : A.grownBy A' v.ownBlock) (ho : A.ownsRow N e size v m xs) (hc : c < N) (hT : T < N) (hD : ∀ D ∈ Ds, D < N) (hB : B ≤ N) (hBA : B ≤ A.heap.size) : TnJ c T u B Ds w n A' := by
 have key : ∀ k o, A.heap[k]? = some o → k < N → A'.heap[k]? = some o := fun k o hk hlt => (hg.block k (Array.getElem?_eq_some_iff.1 hk).1 (fun e2 => by have h1 := (ho.lt k e2.symm).1; omega)).trans hk
 exact ⟨key _ _ h.cnt hc, key _ _ h.trn hT, fun p hp => by obtain ⟨D, hD', rfl⟩ := List.mem_map.1 hp; exact key _ _ (h.mrk _ hp) (hD D hD'), h.bel.grown hg hBA (fun k hk => by have h1 := (ho.lt k hk).1; omega)⟩
theorem pre_at {α : Type} {L pre : List α} {x : α} (h : pre ++ [x] <+: L) : ∃ hq : pre.length < L.length, L[pre.length] = x := by
 obtain ⟨r, rfl⟩ := h
 exact ⟨by simp, by simp⟩
def zeroS : List Value := [.int .i64 0, .int .i64 0, .string ⟨#[]⟩, .int .i64 0, .int .i64 0]
set_option maxRecDepth 100000 in
set_option maxHeartbeats 16000000 in
theorem stands_11 {lt : List Ev} (tr : Tr ByteArray) (a : Option Addr) (n c : Nat) (w : World) (h : AtS w tr) (hT : Tag lt tr) (hl : CellsAt w a (elsV (sortV lt))) (hn : n = lt.length) (hz : n ≤ 1000) :
 Calls Tryz.prog 14 #[.agg #[.pointer (pa tr)], .slice a n c] w fun e w' => e = .returned (.bool true) ∧ Below w.heap.size w w' := by
 have T := Lib.hid h
 have R := Lib.hid hT
 have ZL : Hid (lt.length ≤ 100000) := Lib.hid (by omega)
 have HZ := Lib.hid hz
 have HKK := Lib.hid hT.keysT
 have HSZ : Hid (sz tr ≤ 100000) := Lib.hid (by rw [hT.len]; omega)
 have TX : Hid ((grpT lt).map (·.1) = txR (sortV lt)) := Lib.hid hT.texts
 have GS : Hid (∀ p ∈ grpT lt, p.2 = stsX p.1 (sortV lt)) := Lib.hid hT.grp_sts
 have HSL : Hid (∀ x, (stsX x (sortV lt)).length ≤ 1000) := Lib.hid (fun x => by have h1 := stsX_len x (sortV lt); rw [sortV_length] at h1; omega)
 have HWL : Hid ((txR (sortV lt)).length ≤ 1000) := Lib.hid (by have h1 := txR_len (sortV lt); rw [sortV_length] at h1; omega)
 have HN : Hid (n = (sortV lt).length) := Lib.hid (by rw [sortV_length]; exact hn)
 have HNL := Lib.hid hn
 have CL := Lib.hid hl
 have SHW := Lib.hid hT.shown
 clear h hT hl hn hz
 obtain ⟨S, hS⟩ : ∃ S, sortV lt = S := ⟨_, rfl⟩
 rw [hS] at TX GS HSL HWL HN CL
 obtain ⟨wt, hwt⟩ : ∃ t, txR S = t := ⟨_, rfl⟩
 rw [hwt] at TX HWL
 obtain ⟨L, hL⟩ : ∃ L, grpT lt = L := ⟨_, rfl⟩
 rw [hL] at TX GS
 have HS := Lib.hid hS
 have HWT := Lib.hid hwt
 have HL := Lib.hid hL
 have LW : Hid (L.length = wt.length) := Lib.hid (by rw [← TX.out, List.length_map])
 clear hS hwt hL
 refine (callsIn_wide (n := 6)).1 ?_
 refine callsIn_of_wp_marks Tryz.func14 rfl trivial ?_ rfl
 simp only [Tryz.ntmps14, List.size_toArray, List.length_cons, List.length_nil, Nat.reduceAdd, Nat.reduceSub, Array.replicate_succ, Array.replicate_zero, List.push_toArray, List.append_toArray, List.nil_append, List.cons_append]
 refine wpIn_wide.2 ?_
 have HC : Hid (Chain [w] w) := Lib.hid (Chain.one w)
 go_upto_region 1 with (fail)
 obtain ⟨y, hy⟩ : ∃ c, w.heap.size = c := ⟨_, rfl⟩
 try rw [hy]
 obtain ⟨w1, hw1⟩ : ∃ X, allocs w [.cells #[.pointer (pa tr)] 27, .cells #[.slice a n c] 22, .cells #[.bool false] 4] = X := ⟨_, rfl⟩
 rw [show ((w.alloc (.cells #[.pointer (pa tr)] 27)).alloc (.cells #[.slice a n c] 22)).alloc (.cells #[.bool false] 4) = w1 from hw1]
 have hb : Below w.heap.size w w1 := by rw [← hw1]; exact allocs_below _ _
 have HM : Hid (w1.heap[y]? = some (.cells #[.pointer (pa tr)] 27 (0, 0))) := Lib.hid (by have := allocs_get [.cells #[.pointer (pa tr)] 27, .cells #[.slice a n c] 22, .cells #[.bool false] 4] w 0 _ rfl; rw [hw1, hy] at this; exact this)
 have HSB : Hid (w1.heap[y + 1]? = some (.cells #[.slice a n c] 22 (0, 0))) := Lib.hid (by have := allocs_get [.cells #[.pointer (pa tr)] 27, .cells #[.slice a n c] 22, .cells #[.bool false] 4] w 1 _ rfl; rw [hw1, hy] at this; exact this)
 have HRB : Hid (w1.heap[y + 1 + 1]? = some (.cells #[.bool false] 4 (0, 0))) := Lib.hid (by have := allocs_get [.cells #[.pointer (pa tr)] 27, .cells #[.slice a n c] 22, .cells #[.bool false] 4] w 2 _ rfl; rw [hw1, hy] at this; exact this)
 have Sy : Hid (w.heap.size = y) := Lib.hid hy
 replace HC := Lib.hid (HC.out.push hb)
 clear hb hw1 hy
 have kM0 := cell_of_one HM.out
 go_wp2_with fail
 refine (el_tag tr _ (T.out.below (HC.out.to w (by simp)) rfl) R.out ZL.out).mono ?_
 rintro e w2 ⟨ax, cx, rfl, hb, hcx⟩
 clear kM0
 replace HC := Lib.hid (HC.out.push hb)
 clear hb
 rw [HS.out] at hcx
 rw [← HNL.out]
 have X2 := Lib.hid hcx
 clear hcx
 have kM0 := cell_of_one (boxStays HM.out (HC.out.to w1 (by simp)))
 go_wp2_with fail
 refine (txt_tag tr _ (T.out.below (HC.out.to w (by simp)) rfl) R.out ZL.out).mono ?_
 rintro e w3 ⟨vt, rfl, hb, hown⟩
 clear kM0
 replace HC := Lib.hid (HC.out.push hb)
 clear hb
 rw [HL.out, TX.out, LW.out] at hown
 obtain ⟨at3, ct3, rfl, _⟩ := own_slice hown
 have X3 : Hid (CellsAt w3 at3 (txV wt)) := Lib.hid (CellsAt.ownN hown)
 clear hown
 have kM0 := cell_of_one (boxStays HM.out (HC.out.to w1 (by simp)))
 go_wp2_with fail
 refine (ts_All tr _).mono ?_
 rintro e w4 ⟨mb, rfl, _, hbm, hb⟩
 clear kM0
 replace HC := Lib.hid (HC.out.push hb)
 clear hb
 have MB := Lib.hid hbm
 clear hbm
 have kSB0 := cell_of_one (boxStays HSB.out (HC.out.to w1 (by simp)))
 go_wp2_with fail
 refine (ref11_Texts S a n c _ (CL.out.below (HC.out.to w (by simp)) rfl) HN.out (by have := HZ.out; omega)).mono ?_
 rintro e w5 ⟨vu, rfl, hown, hb⟩
 clear kSB0
 replace HC := Lib.hid (HC.out.push hb)
 clear hb
 rw [HWT.out] at hown
 obtain ⟨au, cu, rfl, _⟩ := own_slice hown
 have X5 : Hid (CellsAt w5 au (txV wt)) := Lib.hid (CellsAt.ownN hown)
 clear hown
 obtain ⟨nW, hnW⟩ : ∃ k, wt.length = k := ⟨_, rfl⟩
 rw [hnW]
 rw [hnW] at LW HWL
 have HNW := Lib.hid hnW.symm
 clear hnW
 go_upto_region 5 with (fail)
 obtain ⟨z, hz⟩ : ∃ c, w5.heap.size = c := ⟨_, rfl⟩
 try rw [hz]
 obtain ⟨w6, hw6⟩ : ∃ X, allocs w5 [.cells #[.slice au nW cu] 63] = X := ⟨_, rfl⟩
 rw [show w5.alloc (.cells #[.slice au nW cu] 63) = w6 from hw6]
 have hb : Below w5.heap.size w5 w6 := by rw [← hw6]; exact allocs_below _ _
 have HWB : Hid (w6.heap[z]? = some (.cells #[.slice au nW cu] 63 (0, 0))) := Lib.hid (by have := allocs_get [.cells #[.slice au nW cu] 63] w5 0 _ rfl; rw [hw6, hz] at this; exact this)
 have Sz : Hid (w5.heap.size = z) := Lib.hid hz
 replace HC := Lib.hid (HC.out.push hb)
 clear hb hw6 hz
 have M6 := Lib.hid (boxStays HM.out (HC.out.to w1 (by simp)))
 have S6 := Lib.hid (boxStays HSB.out (HC.out.to w1 (by simp)))
 have R6 := Lib.hid (boxStays HRB.out (HC.out.to w1 (by simp)))
 have W6 := HWB
 have X26 := Lib.hid (X2.out.below (HC.out.to w2 (by simp)) rfl)
 have X36 := Lib.hid (X3.out.below (HC.out.to w3 (by simp)) rfl)
 have X56 := Lib.hid (X5.out.below (HC.out.to w5 (by simp)) rfl)
 have CL6 := Lib.hid (CL.out.below (HC.out.to w (by simp)) rfl)
 have T6 := Lib.hid (T.out.below (HC.out.to w (by simp)) rfl)
 have MB6 := Lib.hid (boxStays MB.out (HC.out.to w4 (by simp)))
 have B6 := Lib.hid (HC.out.to w (by simp))
 have HNIL := Lib.hid all_nilE
 have LENT : Hid (∀ W, AtS W tr → Calls Tryz.prog 12 #[.agg #[.pointer (pa tr)]] W fun e w' => e = .returned (.int .i64 (n : Int)) ∧ Below W.heap.size W w') := Lib.hid (fun W h => by rw [HNL.out]; exact len_tag tr W h R.out)
 clear HC X2 X3 X5 MB T CL
 refine relG_start (slots := [30, 31, 32, 33, 34, 35, 36, 37, 38, 39, 40, 41, 42, 43, 44, 45, 46, 47, 48, 49, 50, 51, 52, 53, 54, 55, 56, 57, 58, 59, 60, 61, 62, 63]) (so := []) (by kernel_rfl) (by kernel_rfl) (by rfl) ?_
 refine relG_pure (i := 0) (o := ⟨some 30, _, _, _, _, _⟩) (v := ?v1) [] [5] rfl rfl (by kernel_rfl) (by kernel_rfl) (fun t w1 hB hf hbf => ?y1) ?n1
 case y1 =>
  simp only [BasF] at hbf
  clear hf
  obtain ⟨⟨b5, k5⟩, _⟩ := hbf
  skip
  refine Or.inl ⟨wanted_none rfl, ?_⟩
  rintro _ rfl
  go_simp <;> with_reducible rfl
 refine relG_pure (i := 1) (o := ⟨some 31, _, _, _, _, _⟩) (v := ?v2) [] [3] rfl rfl (by kernel_rfl) (by kernel_rfl) (fun t w1 hB hf hbf => ?y2) ?n2
 case y2 =>
  simp only [BasF] at hbf
  clear hf
  obtain ⟨⟨b3, k3⟩, _⟩ := hbf
  skip
  have s0 := cell_of_one (boxStays S6.out hB)
  refine Or.inl ⟨wanted_none rfl, ?_⟩
  rintro _ rfl
  go_simp <;> with_reducible rfl
 refine relG_call (i := 2) (o := ⟨some 32, _, _, _, _, _⟩) ((fun v _ => v = .bool true)) [(0, 30, 1), (1, 31, 0)] [] rfl rfl (by kernel_rfl) (by kernel_rfl) ((fun _ _ _ h _ => h)) ?_ ?_
 · intro t w1 hB hf hbf K hK
   simp only [DepF, List.getD_cons_zero, List.getD_cons_succ] at hf
   obtain ⟨⟨_, ⟨e30, i30⟩, rfl⟩, ⟨_, ⟨e31, i31⟩, rfl⟩, _⟩ := hf
   clear hbf
   skip
   refine ⟨wanted_none rfl, ?_⟩
   go_simp
   refine (sameE_t S ax a n cx c w1 (X26.out.below hB rfl) (CL6.out.below hB rfl) HN.out (by have := HZ.out; omega)).mono ?_
   rintro e w2 ⟨rfl, hb⟩
   exact hK.out _ w2 (rfl) hb
 refine relG_pure (i := 3) (o := ⟨some 33, _, _, _, _, _⟩) (v := ?v3) [(2, 32, 0)] [] rfl rfl (by kernel_rfl) (by kernel_rfl) (fun t w1 hB hf hbf => ?y3) ?n3
 case y3 =>
  simp only [DepF, List.getD_cons_zero] at hf
  obtain ⟨⟨_, ⟨e32, i32⟩, rfl⟩, _⟩ := hf
  clear hbf
  skip
  refine Or.inl ⟨wanted_none rfl, ?_⟩
  rintro _ rfl
  go_simp <;> with_reducible rfl
 refine relG_pure (i := 4) (o := ⟨some 34, _, _, _, _, _⟩) (v := ?v4) [(3, 33, 0)] [] rfl rfl (by kernel_rfl) (by kernel_rfl) (fun t w1 hB hf hbf => ?y4) ?n4
 case y4 =>
  simp only [DepF, List.getD_cons_zero] at hf
  obtain ⟨⟨_, ⟨e33, i33⟩, rfl⟩, _⟩ := hf
  clear hbf
  skip
  refine Or.inl ⟨wanted_none rfl, ?_⟩
  rintro _ rfl
  go_simp <;> with_reducible rfl
 refine relG_pure (i := 5) (o := ⟨some 35, _, _, _, _, _⟩) (v := ?v5) [(4, 34, 0)] [6] rfl rfl (by kernel_rfl) (by kernel_rfl) (fun t w1 hB hf hbf => ?y5) ?n5
 case y5 =>
  simp only [DepF, List.getD_cons_zero] at hf
  simp only [BasF] at hbf
  obtain ⟨⟨_, ⟨e34, i34⟩, rfl⟩, _⟩ := hf
  obtain ⟨⟨b6, k6⟩, _⟩ := hbf
  skip
  refine Or.inl ⟨(by have hg := getD_some i34; simp [Region.wanted, yielded, hg]), ?_⟩
  rintro _ rfl
  go_simp <;> with_reducible rfl
 refine relG_call (i := 6) (o := ⟨some 36, _, _, _, _, _⟩) ((fun v _ => v = .int .i64 0)) [(5, 35, 0), (4, 34, 1)] [] rfl rfl (by kernel_rfl) (by kernel_rfl) ((fun _ _ _ h _ => h)) ?_ ?_
 · intro t w1 hB hf hbf K hK
   simp only [DepF, List.getD_cons_zero, List.getD_cons_succ] at hf
   obtain ⟨⟨_, ⟨e35, i35⟩, rfl⟩, ⟨_, ⟨e34, i34⟩, rfl⟩, _⟩ := hf
   clear hbf
   skip
   refine ⟨(by have hg := getD_some i34; simp [Region.wanted, yielded, hg]), ?_⟩
   go_simp
   refine (num_11b 0 w1).mono ?_
   rintro e w2 ⟨rfl, hb⟩
   exact hK.out _ w2 (rfl) hb
 refine relG_pure (i := 7) (o := ⟨some 37, _, _, _, _, _⟩) (v := ?v6) [(4, 34, 2)] [8] rfl rfl (by kernel_rfl) (by kernel_rfl) (fun t w1 hB hf hbf => ?y6) ?n6
 case y6 =>
  simp only [DepF, List.getD_cons_zero, List.getD_cons_succ] at hf
  simp only [BasF] at hbf
  obtain ⟨⟨_, ⟨e34, i34⟩, rfl⟩, _⟩ := hf
  obtain ⟨⟨b8, k8⟩, _⟩ := hbf
  skip
  refine Or.inl ⟨(by have hg := getD_some i34; simp [Region.wanted, yielded, hg]), ?_⟩
  rintro _ rfl
  go_simp <;> with_reducible rfl
 refine relG_call (i := 8) (o := ⟨some 38, _, _, _, _, _⟩) ((fun v _ => v = .int .i64 0)) [(7, 37, 0), (4, 34, 3)] [] rfl rfl (by kernel_rfl) (by kernel_rfl) ((fun _ _ _ h _ => h)) ?_ ?_
 · intro t w1 hB hf hbf K hK
   simp only [DepF, List.getD_cons_zero, List.getD_cons_succ] at hf
   obtain ⟨⟨_, ⟨e37, i37⟩, rfl⟩, ⟨_, ⟨e34, i34⟩, rfl⟩, _⟩ := hf
   clear hbf
   skip
   refine ⟨(by have hg := getD_some i34; simp [Region.wanted, yielded, hg]), ?_⟩
   go_simp
   refine (num_11b 0 w1).mono ?_
   rintro e w2 ⟨rfl, hb⟩
   exact hK.out _ w2 (rfl) hb
 refine relG_pure (i := 9) (o := ⟨some 39, _, _, _, _, _⟩) (v := ?v7) [(6, 36, 2), (8, 38, 0), (4, 34, 4)] [] rfl rfl (by kernel_rfl) (by kernel_rfl) (fun t w1 hB hf hbf => ?y7) ?n7
 case y7 =>
  simp only [DepF, List.getD_cons_zero, List.getD_cons_succ] at hf
  obtain ⟨⟨_, ⟨e36, i36⟩, rfl⟩, ⟨_, ⟨e38, i38⟩, rfl⟩, ⟨_, ⟨e34, i34⟩, rfl⟩, _⟩ := hf
  clear hbf
  skip
  have hw0 : IntKind.i64.wrap 0 = 0 := (by decide)
  refine Or.inl ⟨(by have hg := getD_some i34; simp [Region.wanted, yielded, hg]), ?_⟩
  rintro _ rfl
  go_simp <;> with_reducible rfl
 refine relG_pure (i := 10) (o := ⟨some 40, _, _, _, _, _⟩) (v := ?v8) [(9, 39, 0), (4, 34, 5)] [] rfl rfl (by kernel_rfl) (by kernel_rfl) (fun t w1 hB hf hbf => ?y8) ?n8
 case y8 =>
  simp only [DepF, List.getD_cons_zero, List.getD_cons_succ] at hf
  obtain ⟨⟨_, ⟨e39, i39⟩, rfl⟩, ⟨_, ⟨e34, i34⟩, rfl⟩, _⟩ := hf
  clear hbf
  skip
  refine Or.inl ⟨(by have hg := getD_some i34; simp [Region.wanted, yielded, hg]), ?_⟩
  rintro _ rfl
  go_simp <;> with_reducible rfl
 refine relG_pure (i := 11) (o := ⟨some 41, _, _, _, _, _⟩) (v := ?v9) [(4, 34, 6), (10, 40, 0)] [] rfl rfl (by kernel_rfl) (by kernel_rfl) (fun t w1 hB hf hbf => ?y9) ?n9
 case y9 =>
  simp only [DepF, List.getD_cons_zero, List.getD_cons_succ] at hf
  obtain ⟨⟨_, ⟨e34, i34⟩, rfl⟩, ⟨_, ⟨e40, i40⟩, rfl⟩, _⟩ := hf
  clear hbf
  skip
  refine Or.inl ⟨wanted_none rfl, ?_⟩
  rintro _ rfl
  go_simp <;> with_reducible rfl
 refine relG_pure (i := 12) (o := ⟨some 42, _, _, _, _, _⟩) (v := ?v10) [(11, 41, 0)] [] rfl rfl (by kernel_rfl) (by kernel_rfl) (fun t w1 hB hf hbf => ?y10) ?n10
 case y10 =>
  simp only [DepF, List.getD_cons_zero] at hf
  obtain ⟨⟨_, ⟨e41, i41⟩, rfl⟩, _⟩ := hf
  clear hbf
  skip
  refine Or.inl ⟨wanted_none rfl, ?_⟩
  rintro _ rfl
  go_simp <;> with_reducible rfl
 refine relG_pure (i := 13) (o := ⟨some 43, _, _, _, _, _⟩) (v := ?v11) [(12, 42, 0)] [7] rfl rfl (by kernel_rfl) (by kernel_rfl) (fun t w1 hB hf hbf => ?y11) ?n11
 case y11 =>
  simp only [DepF, List.getD_cons_zero] at hf
  simp only [BasF] at hbf
  obtain ⟨⟨_, ⟨e42, i42⟩, rfl⟩, _⟩ := hf
  obtain ⟨⟨b7, k7⟩, _⟩ := hbf
  skip
  refine Or.inl ⟨(by have hg := getD_some i42; simp [Region.wanted, yielded, hg]), ?_⟩
  rintro _ rfl
  go_simp <;> with_reducible rfl
 refine relG_pure (i := 14) (o := ⟨some 44, _, _, _, _, _⟩) (v := ?v12) [(12, 42, 1)] [10] rfl rfl (by kernel_rfl) (by kernel_rfl) (fun t w1 hB hf hbf => ?y12) ?n12
 case y12 =>
  simp only [DepF, List.getD_cons_zero, List.getD_cons_succ] at hf
  simp only [BasF] at hbf
  obtain ⟨⟨_, ⟨e42, i42⟩, rfl⟩, _⟩ := hf
  obtain ⟨⟨b10, k10⟩, _⟩ := hbf
  skip
  have b0 := cell_of_one (boxStays W6.out hB)
  refine Or.inl ⟨(by have hg := getD_some i42; simp [Region.wanted, yielded, hg]), ?_⟩
  rintro _ rfl
  go_simp <;> with_reducible rfl
 refine relG_call (i := 15) (o := ⟨some 45, _, _, _, _, _⟩) ((fun v _ => v = .bool true)) [(13, 43, 1), (14, 44, 0), (12, 42, 2)] [] rfl rfl (by kernel_rfl) (by kernel_rfl) ((fun _ _ _ h _ => h)) ?_ ?_
 · intro t w1 hB hf hbf K hK
   simp only [DepF, List.getD_cons_zero, List.getD_cons_succ] at hf
   obtain ⟨⟨_, ⟨e43, i43⟩, rfl⟩, ⟨_, ⟨e44, i44⟩, rfl⟩, ⟨_, ⟨e42, i42⟩, rfl⟩, _⟩ := hf
   clear hbf
   skip
   refine ⟨(by have hg := getD_some i42; simp [Region.wanted, yielded, hg]), ?_⟩
   go_simp
   refine (sameT_t wt at3 au nW ct3 cu w1 (X36.out.below hB rfl) (X56.out.below hB rfl) HNW.out (by have := HWL.out; omega)).mono ?_
   rintro e w2 ⟨rfl, hb⟩
   exact hK.out _ w2 (rfl) hb
 refine relG_pure (i := 16) (o := ⟨some 46, _, _, _, _, _⟩) (v := ?v13) [(15, 45, 0), (12, 42, 3)] [] rfl rfl (by kernel_rfl) (by kernel_rfl) (fun t w1 hB hf hbf => ?y13) ?n13
 case y13 =>
  simp only [DepF, List.getD_cons_zero, List.getD_cons_succ] at hf
  obtain ⟨⟨_, ⟨e45, i45⟩, rfl⟩, ⟨_, ⟨e42, i42⟩, rfl⟩, _⟩ := hf
  clear hbf
  skip
  refine Or.inl ⟨(by have hg := getD_some i42; simp [Region.wanted, yielded, hg]), ?_⟩
  rintro _ rfl
  go_simp <;> with_reducible rfl
 refine relG_pure (i := 17) (o := ⟨some 47, _, _, _, _, _⟩) (v := ?v14) [(12, 42, 4), (16, 46, 0)] [] rfl rfl (by kernel_rfl) (by kernel_rfl) (fun t w1 hB hf hbf => ?y14) ?n14
 case y14 =>
  simp only [DepF, List.getD_cons_zero, List.getD_cons_succ] at hf
  obtain ⟨⟨_, ⟨e42, i42⟩, rfl⟩, ⟨_, ⟨e46, i46⟩, rfl⟩, _⟩ := hf
  clear hbf
  skip
  refine Or.inl ⟨wanted_none rfl, ?_⟩
  rintro _ rfl
  go_simp <;> with_reducible rfl
 refine relG_pure (i := 18) (o := ⟨some 48, _, _, _, _, _⟩) (v := ?v15) [(17, 47, 0)] [] rfl rfl (by kernel_rfl) (by kernel_rfl) (fun t w1 hB hf hbf => ?y15) ?n15
 case y15 =>
  simp only [DepF, List.getD_cons_zero] at hf
  obtain ⟨⟨_, ⟨e47, i47⟩, rfl⟩, _⟩ := hf
  clear hbf
  skip
  refine Or.inl ⟨wanted_none rfl, ?_⟩
  rintro _ rfl
  go_simp <;> with_reducible rfl
 refine relG_pure (i := 19) (o := ⟨some 49, _, _, _, _, _⟩) (v := ?v16) [(18, 48, 0)] [9] rfl rfl (by kernel_rfl) (by kernel_rfl) (fun t w1 hB hf hbf => ?y16) ?n16
 case y16 =>
  simp only [DepF, List.getD_cons_zero] at hf
  simp only [BasF] at hbf
  obtain ⟨⟨_, ⟨e48, i48⟩, rfl⟩, _⟩ := hf
  obtain ⟨⟨b9, k9⟩, _⟩ := hbf
  skip
  refine Or.inl ⟨(by have hg := getD_some i48; simp [Region.wanted, yielded, hg]), ?_⟩
  rintro _ rfl
  go_simp <;> with_reducible rfl
 refine relG_pure (i := 20) (o := ⟨some 50, _, _, _, _, _⟩) (v := ?v17) [(19, 49, 0), (18, 48, 1)] [] rfl rfl (by kernel_rfl) (by kernel_rfl) (fun t w1 hB hf hbf => ?y17) ?n17
 case y17 =>
  simp only [DepF, List.getD_cons_zero, List.getD_cons_succ] at hf
  obtain ⟨⟨_, ⟨e49, i49⟩, rfl⟩, ⟨_, ⟨e48, i48⟩, rfl⟩, _⟩ := hf
  clear hbf
  skip
  have hnil := HNIL.out
  refine Or.inl ⟨(by have hg := getD_some i48; simp [Region.wanted, yielded, hg]), ?_⟩
  rintro _ rfl
  go_simp <;> with_reducible rfl
 refine relG_pure (i := 21) (o := ⟨some 51, _, _, _, _, _⟩) (v := ?v18) [(18, 48, 2), (20, 50, 0)] [] rfl rfl (by kernel_rfl) (by kernel_rfl) (fun t w1 hB hf hbf => ?y18) ?n18
 case y18 =>
  simp only [DepF, List.getD_cons_zero, List.getD_cons_succ] at hf
  obtain ⟨⟨_, ⟨e48, i48⟩, rfl⟩, ⟨_, ⟨e50, i50⟩, rfl⟩, _⟩ := hf
  clear hbf
  skip
  refine Or.inl ⟨wanted_none rfl, ?_⟩
  rintro _ rfl
  go_simp <;> with_reducible rfl
 refine relG_pure (i := 22) (o := ⟨some 52, _, _, _, _, _⟩) (v := ?v19) [(21, 51, 0)] [] rfl rfl (by kernel_rfl) (by kernel_rfl) (fun t w1 hB hf hbf => ?y19) ?n19
 case y19 =>
  simp only [DepF, List.getD_cons_zero] at hf
  obtain ⟨⟨_, ⟨e51, i51⟩, rfl⟩, _⟩ := hf
  clear hbf
  skip
  refine Or.inl ⟨wanted_none rfl, ?_⟩
  rintro _ rfl
  go_simp <;> with_reducible rfl
 refine relG_pure (i := 23) (o := ⟨some 53, _, _, _, _, _⟩) (v := ?v20) [(22, 52, 0)] [2] rfl rfl (by kernel_rfl) (by kernel_rfl) (fun t w1 hB hf hbf => ?y20) ?n20
 case y20 =>
  simp only [DepF, List.getD_cons_zero] at hf
  simp only [BasF] at hbf
  obtain ⟨⟨_, ⟨e52, i52⟩, rfl⟩, _⟩ := hf
  obtain ⟨⟨b2, k2⟩, _⟩ := hbf
  skip
  have m0 := cell_of_one (boxStays M6.out hB)
  refine Or.inl ⟨(by have hg := getD_some i52; simp [Region.wanted, yielded, hg]), ?_⟩
  rintro _ rfl
  go_simp <;> with_reducible rfl
 refine relG_call (i := 24) (o := ⟨some 54, _, _, _, _, _⟩) ((fun v _ => v = .bool true)) [(23, 53, 0), (22, 52, 1)] [] rfl rfl (by kernel_rfl) (by kernel_rfl) ((fun _ _ _ h _ => h)) ?_ ?_
 · intro t w1 hB hf hbf K hK
   simp only [DepF, List.getD_cons_zero, List.getD_cons_succ] at hf
   obtain ⟨⟨_, ⟨e53, i53⟩, rfl⟩, ⟨_, ⟨e52, i52⟩, rfl⟩, _⟩ := hf
   clear hbf
   skip
   refine ⟨(by have hg := getD_some i52; simp [Region.wanted, yielded, hg]), ?_⟩
   go_simp
   refine (may_tag tr w1 (T6.out.below hB rfl) R.out ZL.out).mono ?_
   rintro e w2 ⟨rfl, hb⟩
   exact hK.out _ w2 (rfl) hb
 refine relG_pure (i := 25) (o := ⟨some 55, _, _, _, _, _⟩) (v := ?v21) [(24, 54, 0), (22, 52, 2)] [] rfl rfl (by kernel_rfl) (by kernel_rfl) (fun t w1 hB hf hbf => ?y21) ?n21
 case y21 =>
  simp only [DepF, List.getD_cons_zero, List.getD_cons_succ] at hf
  obtain ⟨⟨_, ⟨e54, i54⟩, rfl⟩, ⟨_, ⟨e52, i52⟩, rfl⟩, _⟩ := hf
  clear hbf
  skip
  refine Or.inl ⟨(by have hg := getD_some i52; simp [Region.wanted, yielded, hg]), ?_⟩
  rintro _ rfl
  go_simp <;> with_reducible rfl
 refine relG_pure (i := 26) (o := ⟨some 56, _, _, _, _, _⟩) (v := ?v22) [(22, 52, 3), (25, 55, 0)] [] rfl rfl (by kernel_rfl) (by kernel_rfl) (fun t w1 hB hf hbf => ?y22) ?n22
 case y22 =>
  simp only [DepF, List.getD_cons_zero, List.getD_cons_succ] at hf
  obtain ⟨⟨_, ⟨e52, i52⟩, rfl⟩, ⟨_, ⟨e55, i55⟩, rfl⟩, _⟩ := hf
  clear hbf
  skip
  refine Or.inl ⟨wanted_none rfl, ?_⟩
  rintro _ rfl
  go_simp <;> with_reducible rfl
 refine relG_pure (i := 27) (o := ⟨some 57, _, _, _, _, _⟩) (v := ?v23) [(26, 56, 0)] [] rfl rfl (by kernel_rfl) (by kernel_rfl) (fun t w1 hB hf hbf => ?y23) ?n23
 case y23 =>
  simp only [DepF, List.getD_cons_zero] at hf
  obtain ⟨⟨_, ⟨e56, i56⟩, rfl⟩, _⟩ := hf
  clear hbf
  skip
  refine Or.inl ⟨wanted_none rfl, ?_⟩
  rintro _ rfl
  go_simp <;> with_reducible rfl
 refine relG_pure (i := 28) (o := ⟨some 58, _, _, _, _, _⟩) (v := ?v24) [(27, 57, 0)] [2] rfl rfl (by kernel_rfl) (by kernel_rfl) (fun t w1 hB hf hbf => ?y24) ?n24
 case y24 =>
  simp only [DepF, List.getD_cons_zero] at hf
  simp only [BasF] at hbf
  obtain ⟨⟨_, ⟨e57, i57⟩, rfl⟩, _⟩ := hf
  obtain ⟨⟨b2, k2⟩, _⟩ := hbf
  skip
  have m0 := cell_of_one (boxStays M6.out hB)
  refine Or.inl ⟨(by have hg := getD_some i57; simp [Region.wanted, yielded, hg]), ?_⟩
  rintro _ rfl
  go_simp <;> with_reducible rfl
 refine relG_call (i := 29) (o := ⟨some 59, _, _, _, _, _⟩) ((fun v _ => v = .int .i64 (n : Int))) [(28, 58, 0), (27, 57, 1)] [] rfl rfl (by kernel_rfl) (by kernel_rfl) ((fun _ _ _ h _ => h)) ?_ ?_
 · intro t w1 hB hf hbf K hK
   simp only [DepF, List.getD_cons_zero, List.getD_cons_succ] at hf
   obtain ⟨⟨_, ⟨e58, i58⟩, rfl⟩, ⟨_, ⟨e57, i57⟩, rfl⟩, _⟩ := hf
   clear hbf
   skip
   refine ⟨(by have hg := getD_some i57; simp [Region.wanted, yielded, hg]), ?_⟩
   go_simp
   refine (LENT.out w1 (T6.out.below hB rfl)).mono ?_
   rintro e w2 ⟨rfl, hb⟩
   exact hK.out _ w2 (rfl) hb
 refine relG_pure (i := 30) (o := ⟨some 60, _, _, _, _, _⟩) (v := ?v25) [(27, 57, 2)] [3] rfl rfl (by kernel_rfl) (by kernel_rfl) (fun t w1 hB hf hbf => ?y25) ?n25
 case y25 =>
  simp only [DepF, List.getD_cons_zero, List.getD_cons_succ] at hf
  simp only [BasF] at hbf
  obtain ⟨⟨_, ⟨e57, i57⟩, rfl⟩, _⟩ := hf
  obtain ⟨⟨b3, k3⟩, _⟩ := hbf
  skip
  have s0 := cell_of_one (boxStays S6.out hB)
  refine Or.inl ⟨(by have hg := getD_some i57; simp [Region.wanted, yielded, hg]), ?_⟩
  rintro _ rfl
  go_simp <;> with_reducible rfl
 refine relG_pure (i := 31) (o := ⟨some 61, _, _, _, _, _⟩) (v := ?v26) [(30, 60, 0), (27, 57, 3)] [] rfl rfl (by kernel_rfl) (by kernel_rfl) (fun t w1 hB hf hbf => ?y26) ?n26
 case y26 =>
  simp only [DepF, List.getD_cons_zero, List.getD_cons_succ] at hf
  obtain ⟨⟨_, ⟨e60, i60⟩, rfl⟩, ⟨_, ⟨e57, i57⟩, rfl⟩, _⟩ := hf
  clear hbf
  skip
  refine Or.inl ⟨(by have hg := getD_some i57; simp [Region.wanted, yielded, hg]), ?_⟩
  rintro _ rfl
  go_simp <;> with_reducible rfl
 refine relG_pure (i := 32) (o := ⟨some 62, _, _, _, _, _⟩) (v := ?v27) [(29, 59, 2), (31, 61, 0), (27, 57, 4)] [] rfl rfl (by kernel_rfl) (by kernel_rfl) (fun t w1 hB hf hbf => ?y27) ?n27
 case y27 =>
  simp only [DepF, List.getD_cons_zero, List.getD_cons_succ] at hf
  obtain ⟨⟨_, ⟨e59, i59⟩, rfl⟩, ⟨_, ⟨e61, i61⟩, rfl⟩, ⟨_, ⟨e57, i57⟩, rfl⟩, _⟩ := hf
  clear hbf
  skip
  refine Or.inl ⟨(by have hg := getD_some i57; simp [Region.wanted, yielded, hg]), ?_⟩
  rintro _ rfl
  go_simp <;> with_reducible rfl
 refine relG_pure (i := 33) (o := ⟨some 63, _, _, _, _, _⟩) (v := ?v28) [(27, 57, 5), (32, 62, 0)] [] rfl rfl (by kernel_rfl) (by kernel_rfl) (fun t w1 hB hf hbf => ?y28) ?n28
 case y28 =>
  simp only [DepF, List.getD_cons_zero, List.getD_cons_succ] at hf
  obtain ⟨⟨_, ⟨e57, i57⟩, rfl⟩, ⟨_, ⟨e62, i62⟩, rfl⟩, _⟩ := hf
  clear hbf
  skip
  refine Or.inl ⟨wanted_none rfl, ?_⟩
  rintro _ rfl
  go_simp <;> with_reducible rfl
 refine relG_done [(0, 30, 33), (1, 31, 32), (2, 32, 31), (3, 33, 30), (4, 34, 29), (5, 35, 28), (6, 36, 27), (7, 37, 26), (8, 38, 25), (9, 39, 24), (10, 40, 23), (11, 41, 22), (12, 42, 21), (13, 43, 20), (14, 44, 19), (15, 45, 18), (16, 46, 17), (17, 47, 16), (18, 48, 15), (19, 49, 14), (20, 50, 13), (21, 51, 12), (22, 52, 11), (23, 53, 10), (24, 54, 9), (25, 55, 8), (26, 56, 7), (27, 57, 6), (28, 58, 5), (29, 59, 4), (30, 60, 3), (31, 61, 2), (32, 62, 1), (33, 63, 0)] (by kernel_rfl) rfl (by kernel_rfl) (fun f wE hB hf => ?_)
 simp only [FinF, List.getD_cons_zero, List.getD_cons_succ] at hf
 obtain ⟨⟨_, e30, rfl⟩, ⟨_, e31, rfl⟩, ⟨_, e32, rfl⟩, ⟨_, e33, rfl⟩, ⟨_, e34, rfl⟩, ⟨_, e35, rfl⟩, ⟨_, e36, rfl⟩, ⟨_, e37, rfl⟩, ⟨_, e38, rfl⟩, ⟨_, e39, rfl⟩, ⟨_, e40, rfl⟩, ⟨_, e41, rfl⟩, ⟨_, e42, rfl⟩, ⟨_, e43, rfl⟩, ⟨_, e44, rfl⟩, ⟨_, e45, rfl⟩, ⟨_, e46, rfl⟩, ⟨_, e47, rfl⟩, ⟨_, e48, rfl⟩, ⟨_, e49, rfl⟩, ⟨_, e50, rfl⟩, ⟨_, e51, rfl⟩, ⟨_, e52, rfl⟩, ⟨_, e53, rfl⟩, ⟨_, e54, rfl⟩, ⟨_, e55, rfl⟩, ⟨_, e56, rfl⟩, ⟨_, e57, rfl⟩, ⟨_, e58, rfl⟩, ⟨_, e59, rfl⟩, ⟨_, e60, rfl⟩, ⟨_, e61, rfl⟩, ⟨_, e62, rfl⟩, ⟨_, e63, rfl⟩, _⟩ := hf
 simp only [regT, List.foldl_cons, List.foldl_nil, List.setIfInBounds_toArray, List.set_cons_zero, List.set_cons_succ, e30, e31, e32, e33, e34, e35, e36, e37, e38, e39, e40, e41, e42, e43, e44, e45, e46, e47, e48, e49, e50, e51, e52, e53, e54, e55, e56, e57, e58, e59, e60, e61, e62, e63]
 clear e30 e31 e32 e33 e34 e35 e36 e37 e38 e39 e40 e41 e42 e43 e44 e45 e46 e47 e48 e49 e50 e51 e52 e53 e54 e55 e56 e57 e58 e59 e60 e61 e62 e63
 obtain ⟨w8, rfl⟩ : ∃ x : World, x = wE := ⟨_, rfl⟩
 have M8 := Lib.hid (boxStays M6.out hB)
 have S8 := Lib.hid (boxStays S6.out hB)
 have R8 := Lib.hid (boxStays R6.out hB)
 have W8 := Lib.hid (boxStays W6.out hB)
 have X58 := Lib.hid (X56.out.below hB rfl)
 have CL8 := Lib.hid (CL6.out.below hB rfl)
 have T8 := Lib.hid (T6.out.below hB rfl)
 have MB8 := Lib.hid (boxStays MB6.out hB)
 have BW := Lib.hid (B6.out.trans (hB.mono B6.out.size))
 clear hB M6 S6 R6 W6 X56 X26 X36 CL6 T6 MB6 B6 HNIL HM HSB HRB HWB
 go_wp2_with fail
 obtain ⟨B0, hB0⟩ : ∃ b, w8.heap.size = b := ⟨_, rfl⟩
 rw [hB0]
 have HB0 := Lib.hid hB0
 have B7 : Hid (Below B0 w8 (w8.alloc (.cells #[.int .i64 0] 3))) := Lib.hid (by rw [← hB0]; exact below_new _ _)
 have T7 : Hid (Boxed (w8.alloc (.cells #[.int .i64 0] 3)) B0 3 (.int .i64 ((0 : Nat) : Int))) := Lib.hid (by rw [← hB0]; exact Boxed.new _ _ _)
 have SD : Hid (y + 1 + 1 < B0 ∧ z < B0 ∧ mb < B0 ∧ w.heap.size ≤ B0) := Lib.hid (by rw [← hB0]; exact ⟨(Array.getElem?_eq_some_iff.1 R8.out).1, (Array.getElem?_eq_some_iff.1 W8.out).1, (Array.getElem?_eq_some_iff.1 MB8.out).1, BW.out.size⟩)
 have hT7 : B0 < (w8.alloc (.cells #[.int .i64 0] 3)).heap.size := by rw [World.size_alloc]; omega
 clear hB0
 refine (wpIn_wide (n := 6)).1 ?_
 refine wpIn_loop (fun a' w1 => ∃ (u T : Nat) (Ds : List Nat), a' = { tmps := ptS (fun i => a'.tmps.getD i undef) y mb z T, defers := Ds.map fun D => { target := .collected D, args := #[] } } ∧ Ds.length = u ∧ u ≤ 2 ∧ B0 ≤ T ∧ T < w1.heap.size ∧ Hid (Boxed w1 T 3 (.int .i64 (u : Int))) ∧ Hid (Facts (markF Ds) w1) ∧ Ds.Nodup ∧ (∀ D ∈ Ds, B0 ≤ D) ∧ Hid (Below B0 w8 w1)) (fun a' _ => 2 - a'.defers.length) ⟨0, B0, [], rfl, rfl, by omega, Nat.le_refl _, hT7, T7, Lib.hid (fun p hp => by cases hp), List.nodup_nil, by simp, B7⟩ ?_
 clear B7 T7 hT7
 rintro a' w1 ⟨u, T, Ds, he, hlen, hu, hT, hTl, HT, HF, hnd, hD4, HB⟩
 generalize (fun i => a'.tmps.getD i undef) = g9 at he
 subst he
 simp only [ptS]
 have eT := cell_of_one HT.out
 by_cases hu2 : u < 2
 · have hui : (u : Int) < 2 := by omega
   gi_wp2
   clear eT
   obtain ⟨c9, hc9⟩ : ∃ c, c = w1.heap.size := ⟨_, rfl⟩
   rw [← hc9]
   obtain ⟨V8, hV8⟩ : ∃ V8, w1.alloc (.cells #[.int .i64 0] 3) = V8 := ⟨_, rfl⟩
   rw [hV8]
   have g8 : Boxed V8 c9 3 (.int .i64 (((0 : Nat)) : Int)) := by rw [← hV8, hc9]; exact Boxed.new _ _ _
   have hb8 : Below w1.heap.size w1 V8 := by rw [← hV8]; exact below_new _ _
   have z8 : V8.heap.size = c9 + 1 := by rw [← hV8, hc9]; simp
   have hB1 : B0 ≤ w1.heap.size := by have := HB.out.size; have := HB0.out; omega
   have D8 : Below B0 w8 V8 := HB.out.trans (hb8.mono hB1)
   have hDc : ∀ D ∈ Ds, D < c9 := fun D h => by rw [hc9]; exact (HF.out.lt (D, .deferred (some [])) (List.mem_map.2 ⟨D, h, rfl⟩))
   have I8 : TnJ c9 T u B0 Ds w8 0 V8 := ⟨g8, boxStays HT.out hb8, HF.out.below hb8, D8⟩
   have hBc : B0 ≤ c9 := by omega
   have hTc : T < c9 := by omega
   have hmV : Boxed V8 mb 27 (.pointer (pa tr)) := (D8.block mb SD.out.2.2.1).trans MB8.out
   have hTV : AtS V8 tr := T8.out.below D8 HB0.out.symm
   clear hV8 hb8 hc9 g8
   have HIter := ts_All1 5 (by omega) tr mb V8 (fun _ => False) (fun t => t = 43) (fun t h => by rw [h]; decide) hmV hTV HSZ.out HKK.out (fun k h => h.elim)
   unfold GoesGrp at HIter
   rw [SHW.out, HL.out] at HIter
   have HB00 : B0 ≤ w8.heap.size := Nat.le_of_eq HB0.out.symm
   have OWN0 : OwnFrom V8.heap.size (TnJ c9 T u B0 Ds w8) := tnJ_own HB00 (by omega) (by omega) (by omega) (fun D h => by have := hDc D h; omega)
   have OWN : OwnFrom V8.heap.size (fun (pre : List GrX) W => TnJ c9 T u B0 Ds w8 pre.length W) := fun pre A A' row h hg hr => OWN0 pre.length A A' row h hg hr
   clear hmV hTV
   refine range_law2 (n := 6) rfl (enters_of Tryz.func68 (by kernel_rfl) rfl) HIter (by omega) KeepE.trans (fun W o o' _ _ => KeepE.put W _ o' (by omega) (fun k hk => hk.elim)) (fun x => rfl) (fun pre => ?hX) ?_ (fun pre W => TnJ c9 T u B0 Ds w8 pre.length W) (fun code pre W => code = .exit 2 ∧ u = 0 ∧ TnJ c9 T u B0 Ds w8 pre.length W) (fun ys W => ys.length = nW ∧ TnJ c9 T u B0 Ds w8 ys.length W) OWN ?_ ?_ ?_ I8
    (fun pre x a' W => TnJ c9 T u B0 Ds w8 pre.length W ∧ ((pre ++ [x]).map GrX.pr <+: L ∧ W.ownsRow (V8.heap.size + 2) 43 5 (.slice x.a x.l.length x.c) x.l.length (stsV x.l)) ∧ a' = { tmps := #[g9 0, g9 1, .pointer (some ⟨y, 0, none⟩), .pointer (some ⟨y + 1, 0, none⟩), .pointer (some ⟨y + 1 + 1, 0, none⟩), g9 5, g9 6, g9 7, g9 8, .func (.func 68) #[] #[.pointer (some ⟨mb, 0, none⟩)], .pointer (some ⟨z, 0, none⟩), .pointer (some ⟨T, 0, none⟩), .pointer (some ⟨c9, 0, none⟩), .string x.t, .slice x.a x.l.length x.c, g9 15, g9 16, g9 17, g9 18, g9 19, g9 20, g9 21, g9 22, g9 23, g9 24, g9 25, g9 26, g9 27, g9 28, g9 29, g9 30, g9 31, g9 32, g9 33, g9 34, g9 35, g9 36, g9 37, g9 38, g9 39, g9 40, g9 41, g9 42, g9 43, g9 44, g9 45, g9 46, g9 47, g9 48, g9 49, g9 50, g9 51, g9 52, g9 53, g9 54, g9 55, g9 56, g9 57, g9 58, g9 59, g9 60, g9 61, g9 62, g9 63, .int .i64 (u : Int), .bool true, g9 66, g9 67, .func (.func 68) #[] #[.pointer (some ⟨mb, 0, none⟩)], .string x.t, .slice x.a x.l.length x.c, g9 71, g9 72, g9 73, g9 74, g9 75, g9 76, g9 77, g9 78, g9 79, g9 80, g9 81, g9 82, g9 83, g9 84, g9 85, g9 86, g9 87, g9 88, g9 89, g9 90, g9 91, g9 92, g9 93, g9 94, g9 95, g9 96, g9 97, g9 98, g9 99, g9 100, g9 101, g9 102, g9 103, g9 104, g9 105, g9 106, g9 107, g9 108, g9 109, g9 110, g9 111, g9 112, g9 113, g9 114, g9 115, g9 116, g9 117], defers := [] }) ?_ ?assign ?body ?done ?stop
   case hX =>
    rintro x A A' row ⟨h1, h2⟩ hg hr
    exact ⟨h1, own_cells h2 (fun k c t fr hk => heap_kept hg (fun r e => (hr r e).2) hk)⟩
   · rintro W1 _ ys A B ⟨_, rfl⟩ k o _ ho _; exact ho
   · rintro code pre A A' row ⟨h1, h2, h3⟩ hg hr; exact ⟨h1, h2, OWN pre A A' row h3 hg hr⟩
   · rintro ys A A' row ⟨h1, h2⟩ hg hr; exact ⟨h1, OWN ys A A' row h2 hg hr⟩
   · rintro W1 _ ys A B h ⟨h1, rfl⟩; exact ⟨by rw [← LW.out, ← h1, List.length_map], h⟩
   · rintro x a' pre A A' row ⟨h1, ⟨h2, h3⟩, h4⟩ hg hr
     exact ⟨OWN pre A A' row h1 hg hr, ⟨h2, own_cells h3 (fun k c t fr hk => heap_kept hg (fun r e => (hr r e).2) hk)⟩, h4⟩
   case assign =>
    intro ll pre x W K hi hx hsz hK
    have HI := Lib.hid hi
    have HX := Lib.hid hx
    clear hi hx HIter I8 D8
    simp only [encGr, List.zip_toArray, List.zip_cons_cons, List.zip_nil_right, List.foldl_toArray, List.foldl_cons, List.foldl_nil]
    gi_wp2
    exact hK _ _ (KeepsFrom.refl _ _) (KeepE.refl _) hsz ⟨HI.out, HX.out, rfl⟩
   case body =>
    clear HIter I8 D8
    rintro ll pre x a' W ⟨hI, ⟨hpl, how⟩, rfl⟩ hsz
    obtain ⟨hq0, hq1⟩ := pre_at (by simpa using hpl)
    rw [List.length_map] at hq0
    obtain ⟨q, hq⟩ : ∃ q, pre.length = q := ⟨_, rfl⟩
    have hqL : q < L.length := by rw [← hq]; exact hq0
    have hqe : L[q]'hqL = x.pr := by subst hq; simpa using hq1
    have HI := Lib.hid hI
    have HOW := Lib.hid how
    have HQL : q < nW := by rw [← LW.out]; exact hqL
    have hqw : q < wt.length := by rw [← HNW.out]; exact HQL
    have HXT : Hid (wt[q]'hqw = x.t) := Lib.hid (by
     have e1 : (L.map (·.1))[q]'(by rw [List.length_map]; exact hqL) = x.t := by rw [List.getElem_map, hqe]; rfl
     rw [← e1]
     congr 1
     exact TX.out.symm)
    have HXL : Hid (stsX x.t S = x.l) := Lib.hid (by
     have e1 := GS.out (L[q]'hqL) (List.getElem_mem hqL)
     rw [hqe] at e1
     exact e1.symm)
    have HXN : Hid (x.l.length ≤ 1000) := Lib.hid (by rw [← HXL.out]; exact HSL.out x.t)
    have BWW : Hid (Below w.heap.size w W) := Lib.hid (BW.out.trans (hI.bel.mono SD.out.2.2.2))
    have BW8 : Hid (Below B0 w8 W) := Lib.hid hI.bel
    have eC := cell_of_one hI.cnt
    have eT := cell_of_one hI.trn
    have eW : W.cell? ⟨z, 0, none⟩ = some (.slice au nW cu) := cell_of_one (t := 63) ((hI.bel.block z SD.out.2.1).trans W8.out)
    have eS : W.cell? ⟨y + 1, 0, none⟩ = some (.slice a n c) := cell_of_one (t := 22) ((hI.bel.block (y + 1) (by have := SD.out.1; omega)).trans S8.out)
    rw [hq] at eC
    obtain ⟨bu, ou, hau, p0⟩ := tx_get (X58.out.below hI.bel HB0.out.symm) q hqw
    rw [HXT.out] at p0
    subst hau
    have HQ := Lib.hid hq
    clear hI hpl how hq0 hq1 hqe hq
    have hqi : (q : Int) < (nW : Int) := by omega
    have hnle : ¬ nW ≤ q := by omega
    have hdle : decide (nW ≤ q) = false := by simp; omega
    have hnxx : (x.t.toList != x.t.toList) = false := by simp
    gi_wp2
    refine ⟨trivial, ?_⟩
    refine (CallsIn.inRound ll (callsIn_wide.2 (ref11_Tags S x.t a n c W (CL8.out.below BW8.out HB0.out.symm) HN.out (by have := HZ.out; omega)))).mono ?_
    rintro e W2 ⟨v, rfl, hown, hb2⟩
    rw [HXL.out] at hown
    obtain ⟨a2, c2, rfl, _⟩ := own_slice hown
    have X2 : Hid (CellsAt W2 a2 (stsV x.l)) := Lib.hid (CellsAt.ownN hown)
    have HB2 := Lib.hid hb2
    clear hown hb2 p0 eC eT eW eS hdle hnle hnxx
    gi_wp2
    refine ⟨trivial, ?_⟩
    refine (CallsIn.inRound ll (callsIn_wide.2 (ref11_SameStamps x.l x.l x.a a2 x.l.length x.l.length x.c c2 W2 ((CellsAt.ownN HOW.out).below HB2.out rfl) X2.out rfl rfl (by have := HXN.out; omega)))).mono ?_
    rintro e W3 ⟨rfl, hb3⟩
    rw [show decide (x.l = x.l) = true from decide_eq_true rfl]
    have HB3 : Hid (Below W.heap.size W W3) := Lib.hid (HB2.out.trans (hb3.mono HB2.out.size))
    clear hb3 X2 HB2
    gi_wp2
    have HI3 := Lib.hid (HI.out.below HB3.out (by omega))
    have HO3 := Lib.hid (own_below HOW.out HB3.out (fun k hk => (HOW.out.lt k hk).2))
    have hz3 : V8.heap.size ≤ W3.heap.size := by have := HB3.out.size; omega
    have KF3 : Hid (KeepsFrom V8.heap.size W W3) := Lib.hid ⟨HB3.out.size, fun k o _ h _ => boxStays h HB3.out⟩
    have KE3 : Hid (KeepE (V8.heap.size + 2) (fun _ => False) (fun t => t = 43) W W3) := Lib.hid (KeepE.below HB3.out (fun k hk => hk.elim))
    obtain ⟨nx, hnx⟩ : ∃ k, x.l.length = k := ⟨_, rfl⟩
    obtain ⟨xa, hxa⟩ : ∃ k, x.a = k := ⟨_, rfl⟩
    obtain ⟨xc, hxc⟩ : ∃ k, x.c = k := ⟨_, rfl⟩
    rw [hnx, hxa, hxc] at HO3
    rw [hnx] at HXN
    simp only [hnx, hxa, hxc]
    clear HB3 BWW BW8 hxa hxc
    gi_loopw [15] (fun i wr => ∃ (r : Nat) (xs : List Value), i = .int .i64 (r : Int) ∧ r ≤ nx ∧ Hid (xs.length = nx * 5) ∧ Hid (wr.ownsRow (V8.heap.size + 2) 43 5 (.slice xa nx xc) nx xs) ∧ Hid (W3.grownBy wr (Value.slice xa nx xc).ownBlock)) (fun i _ => nx - (intOf i).toNat)
    case atStart => exact ⟨0, _, rfl, Nat.zero_le _, Lib.hid HO3.out.1, HO3, Lib.hid ⟨rfl, rfl, rfl, Nat.le_refl _, fun _ _ _ => rfl⟩⟩
    case round =>
     obtain ⟨r, xs, rfl, hr, HXS, HOR, HGR⟩ := hrel
     by_cases hrl : r < nx
     · have hri : (r : Int) < (nx : Int) := by omega
       obtain ⟨gg, cgg, hg, _⟩ := own_form HOR.out (by omega)
       cases hg
       have hown2 := HOR.out
       have hlen2 : r * 5 + 5 ≤ xs.length := by rw [HXS.out]; omega
       have HTH : Hid (wr.there gg (r * 5) (#[.int .i64 0, .int .i64 0, .string ⟨#[]⟩, .int .i64 0, .int .i64 0] : Array Value).size) := Lib.hid (own_there hown2 (r * 5) 5 hlen2)
       have H1 : Hid ((#[.int .i64 0, .int .i64 0, .string ⟨#[]⟩, .int .i64 0, .int .i64 0] : Array Value).all (·.oneCell') = true) := Lib.hid (by simp [Value.oneCell'])
       have HI6 : Hid ((Tryz.prog.info? 43).map (·.size) = some (#[.int .i64 0, .int .i64 0, .string ⟨#[]⟩, .int .i64 0, .int .i64 0] : Array Value).size) := Lib.hid (by kernel_rfl)
       have HO4 := Lib.hid (own_mid zeroS (r * 5) _ _ hown2 hlen2)
       have HG4 : Hid (W3.grownBy (wr.setCells gg (r * 5) zeroS) (some gg)) := Lib.hid (grown_tr HGR.out (grown_setCells gg zeroS (r * 5) wr))
       have HL4 : Hid ((xs.take (r * 5) ++ zeroS ++ xs.drop (r * 5 + zeroS.length)).length = nx * 5) := Lib.hid (by simp [zeroS]; have := HXS.out; omega)
       clear hown2
       have hpw : IntKind.i64.wrap ((r : Int) + 1) = (r : Int) + 1 := by rw [IntKind.wrap_i64]; have := HXN.out; omega
       gi_wp2_with (refine wpListIn_store_mid (o := ⟨none, .store 43 (.tmp 100) (.tmp 99), _, _, _, _⟩) rfl _ _ _ rfl gg (r * 5) #[.int .i64 0, .int .i64 0, .string ⟨#[]⟩, .int .i64 0, .int .i64 0] (by simp [Act.eval]) (by simp [Act.eval]) HTH.out HI6.out H1.out ?_)
       refine ⟨⟨r + 1, _, by simp, by omega, HL4, HO4, HG4⟩, ?_⟩
       have q1 : (intOf (Value.int .i64 ((r : Int) + 1))).toNat = r + 1 := by simp [intOf]
       have q2 : (intOf (Value.int .i64 (r : Int))).toNat = r := by simp [intOf]
       rw [q1, q2]; omega
     · have hri : ¬ (r : Int) < (nx : Int) := by omega
       have HI4 := Lib.hid (HI3.out.row HGR.out HO3.out (by omega) (by omega) (fun D h => by have := hDc D h; omega) (by omega) (by omega))
       have hz4 : V8.heap.size ≤ wr.heap.size := Nat.le_trans hz3 HGR.out.size
       have KF4 : Hid (KeepsFrom V8.heap.size W wr) := Lib.hid (KF3.out.trans (keepsFrom_rowE HGR.out HO3.out))
       have KE4 : Hid (KeepE (V8.heap.size + 2) (fun _ => False) (fun t => t = 43) W wr) := Lib.hid (KE3.out.trans (keepE_row HGR.out HO3.out))
       have eC := cell_of_one HI4.out.cnt
       have fC := HI4.out.cnt.frozen
       have eT := cell_of_one HI4.out.trn
       rw [HQ.out] at eC
       have hpw : IntKind.i64.wrap ((q : Int) + 1) = (q : Int) + 1 := by rw [IntKind.wrap_i64]; have := HWL.out; omega
       have t1 : (wr.setCell ⟨c9, 0, none⟩ (.int .i64 ((q : Int) + 1))).cell? ⟨T, 0, none⟩ = some (.int .i64 (u : Int)) := cell_of_one ((Below.heap_setCell _ _ _ _ (by simp; omega)).trans HI4.out.trn)
       have t3 : (wr.setCell ⟨c9, 0, none⟩ (.int .i64 ((q : Int) + 1))).cell? ⟨c9, 0, none⟩ = some (.int .i64 ((q : Int) + 1)) := (HI4.out.cnt.set _).cell
       have KF : Hid (KeepsFrom V8.heap.size W (wr.setCell ⟨c9, 0, none⟩ (.int .i64 ((q : Int) + 1)))) := Lib.hid (KF4.out.trans ((KeepsOthers.setCell _ _ _).from _))
       have KE : Hid (KeepE (V8.heap.size + 2) (fun _ => False) (fun t => t = 43) W (wr.setCell ⟨c9, 0, none⟩ (.int .i64 ((q : Int) + 1)))) := Lib.hid (KE4.out.trans (KeepE.setCell _ _ _ _ (by omega) (fun h => h)))
       have GG : Hid (TnJ c9 T u B0 Ds w8 (pre ++ [x]).length (wr.setCell ⟨c9, 0, none⟩ (.int .i64 ((q : Int) + 1)))) := Lib.hid ⟨by rw [List.length_append, HQ.out]; simpa using HI4.out.cnt.set (.int .i64 ((q : Int) + 1)), (Below.heap_setCell _ _ _ _ (by simp; omega)).trans HI4.out.trn, HI4.out.mrk.setCell (fun p hp => by obtain ⟨D, hD', rfl⟩ := List.mem_map.1 hp; have := hDc D hD'; show D ≠ c9; omega) _, HI4.out.bel.setCell (p := ⟨c9, 0, none⟩) (by show B0 ≤ c9; omega) _⟩
       have hu01 : u = 0 ∨ u = 1 := by omega
       clear hz4 KF3 KE3 HGR HOR HXS HI3 HO3
       rw [z8] at KF KE
       rcases hu01 with rfl | rfl
       · by_cases hq0 : (q : Int) + 1 = 1
         · rw [hq0] at KF KE GG
           gi_wp2
           exact ⟨KF.out, KE.out, rfl, GG.out⟩
         · have hqb : ((q : Int) + 1 == 1) = false := by simpa using hq0
           gi_wp2
           exact ⟨KF.out, KE.out, GG.out⟩
       · gi_wp2
         exact ⟨KF.out, KE.out, GG.out⟩
   case done =>
    clear HIter I8 D8
    rintro D ys W1 hD ⟨hys, hI⟩ hK
    have eC := cell_of_one hI.cnt
    have eT := cell_of_one hI.trn
    have eW : W1.cell? ⟨z, 0, none⟩ = some (.slice au nW cu) := cell_of_one (t := 63) ((hI.bel.block z SD.out.2.1).trans W8.out)
    rw [hys] at eC
    have HI := Lib.hid hI
    have HKD := Lib.hid hK
    clear hI hK hys
    simp only [Exit.inBlock]
    have hu01 : u = 0 ∨ u = 1 := by omega
    rcases hu01 with rfl | rfl
    · gi_wp2
      have hDl : D < W1.heap.size := (Array.getElem?_eq_some_iff.1 HKD.out).1
      have NEW : Hid (Facts (markF (D :: Ds)) (W1.alloc (.cells #[.int .i64 1] 3))) := Lib.hid (by
       have f := HI.out.mrk.below (below_new W1 (.cells #[.int .i64 1] 3))
       intro p hp
       rcases List.mem_cons.1 (show p ∈ (D, Obj.deferred (some [])) :: markF Ds from hp) with rfl | h
       · exact ((below_new W1 (.cells #[.int .i64 1] 3)).block _ hDl).trans HKD.out
       · exact f p h)
      have B9 := Lib.hid (HI.out.bel.trans ((below_new W1 (.cells #[.int .i64 1] 3)).mono (by have := HI.out.bel.size; omega)))
      refine ⟨⟨(0+1), W1.heap.size, D :: Ds, rfl, by simp [hlen], by omega, by have := HI.out.bel.size; omega, by rw [World.size_alloc]; omega, Lib.hid (Boxed.new W1 3 (.int .i64 1)), NEW, List.nodup_cons.2 ⟨fun h => by have := hDc D h; omega, hnd⟩, fun D' h => ?_, B9⟩, ?_⟩
      · rcases List.mem_cons.1 h with rfl | h
        · omega
        · exact hD4 D' h
      · simp [hlen] <;> omega
    · gi_wp2
      have hDl : D < W1.heap.size := (Array.getElem?_eq_some_iff.1 HKD.out).1
      have NEW : Hid (Facts (markF (D :: Ds)) (W1.alloc (.cells #[.int .i64 2] 3))) := Lib.hid (by
       have f := HI.out.mrk.below (below_new W1 (.cells #[.int .i64 2] 3))
       intro p hp
       rcases List.mem_cons.1 (show p ∈ (D, Obj.deferred (some [])) :: markF Ds from hp) with rfl | h
       · exact ((below_new W1 (.cells #[.int .i64 2] 3)).block _ hDl).trans HKD.out
       · exact f p h)
      have B9 := Lib.hid (HI.out.bel.trans ((below_new W1 (.cells #[.int .i64 2] 3)).mono (by have := HI.out.bel.size; omega)))
      refine ⟨⟨(1+1), W1.heap.size, D :: Ds, rfl, by simp [hlen], by omega, by have := HI.out.bel.size; omega, by rw [World.size_alloc]; omega, Lib.hid (Boxed.new W1 3 (.int .i64 2)), NEW, List.nodup_cons.2 ⟨fun h => by have := hDc D h; omega, hnd⟩, fun D' h => ?_, B9⟩, ?_⟩
      · rcases List.mem_cons.1 h with rfl | h
        · omega
        · exact hD4 D' h
      · simp [hlen] <;> omega
   case stop =>
    clear HIter I8 D8
    rintro D code pre W1 hD hSp ⟨rfl, hu0, hI⟩ hK
    subst hu0
    have eC := cell_of_one hI.cnt
    have eT := cell_of_one hI.trn
    have HI := Lib.hid hI
    have HKD := Lib.hid hK
    clear hI hK
    gi_wp2
    have hDl : D < W1.heap.size := (Array.getElem?_eq_some_iff.1 HKD.out).1
    have NEW : Hid (Facts (markF (D :: Ds)) (W1.alloc (.cells #[.int .i64 1] 3))) := Lib.hid (by
     have f := HI.out.mrk.below (below_new W1 (.cells #[.int .i64 1] 3))
     intro p hp
     rcases List.mem_cons.1 (show p ∈ (D, Obj.deferred (some [])) :: markF Ds from hp) with rfl | h
     · exact ((below_new W1 (.cells #[.int .i64 1] 3)).block _ hDl).trans HKD.out
     · exact f p h)
    have B9 := Lib.hid (HI.out.bel.trans ((below_new W1 (.cells #[.int .i64 1] 3)).mono (by have := HI.out.bel.size; omega)))
    refine ⟨⟨(0+1), W1.heap.size, D :: Ds, rfl, by simp [hlen], by omega, by have := HI.out.bel.size; omega, by rw [World.size_alloc]; omega, Lib.hid (Boxed.new W1 3 (.int .i64 1)), NEW, List.nodup_cons.2 ⟨fun h => by have := hDc D h; omega, hnd⟩, fun D' h => ?_, B9⟩, ?_⟩
    · rcases List.mem_cons.1 h with rfl | h
      · omega
      · exact hD4 D' h
    · simp [hlen] <;> omega
 · have hui : ¬ (u : Int) < 2 := by omega
   gi_wp2
   have BWW : Hid (Below w.heap.size w w1) := Lib.hid (BW.out.trans (HB.out.mono SD.out.2.2.2))
   have hX3 : w1.heap[y + 1 + 1]? = some (.cells #[.bool false] 4 (0, 0)) := (HB.out.block (y + 1 + 1) SD.out.1).trans R8.out
   have HX3 := Lib.hid (Boxed.set (t := 4) (.bool true) hX3)
   have e3 := cell_of_one hX3
   have f3 := frozen_of_row _ (y + 1 + 1) 0 _ _ hX3
   have MK := Lib.hid (HF.out.setCell (c := y + 1 + 1) (i := 0) (fun p hp => by obtain ⟨D, hD', rfl⟩ := List.mem_map.1 hp; have h1 := hD4 D hD'; have h2 := SD.out.1; show D ≠ y + 1 + 1; omega) (.bool true))
   have BF := Lib.hid (BWW.out.setCell (p := ⟨y + 1 + 1, 0, none⟩) (by have := Sy.out; show w.heap.size ≤ y + 1 + 1; omega) (.bool true))
   have hDs : ∀ D ∈ Ds, y + 1 + 1 < D ∧ w.heap.size ≤ D := fun D h => by have h1 := hD4 D h; have h2 := SD.out; omega
   clear hX3 eT
   go_wp2_with fail
   try rw [Exit.noGoto_ret]
   try show LeavesInM _ _ _ _ _ _ (marks Ds) _ _
   refine leaves_marks Ds _ hnd MK.out ?_
   intro W' q1 q2 q3 q4 q5
   have k9 := cell_of_one ((q5 (y + 1 + 1) (fun h => by have := hDs _ h; omega)).trans HX3.out)
   have bW : Below w.heap.size w W' := ⟨q1.trans BF.out.os, q2.trans BF.out.tape, q3.trans BF.out.output, by rw [q4]; exact BF.out.size, fun k hk => (q5 k (fun h => by have := hDs _ h; omega)).trans (BF.out.block k hk)⟩
   exact ⟨.bool true, by simp [results, Tryz.results14, go_sem, k9], rfl, bW⟩
end Go.Proofs.YtjlliohjeiclaaaGreatDoor
namespace Go.Proofs.YtjlliohjeiclaaaGreatDoor
open Go.RowKit St Pm
theorem filter_next {p : Ev → Bool} {l : List Ev} {k : Nat} (hk : k < l.length) : (p l[k] = true → (l.take (k + 1)).filter p = (l.take k).filter p ++ [l[k]]) ∧ (p l[k] = false → (l.take (k + 1)).filter p = (l.take k).filter p) := by
 rw [List.take_succ_eq_append_getElem hk, List.filter_append]
 constructor
 · intro h
   rw [List.filter_cons, if_pos h]
   rfl
 · intro h
   rw [List.filter_cons, if_neg (by rw [h]; simp)]
   simp
end Go.Proofs.YtjlliohjeiclaaaGreatDoor
