/- Words, contracts and walks that the proof stands on (JoC OwE14 RqA14 Fn GoA14). -/
import Derived.LoopIn
import Derived.LoopNIn
import Derived.OwnWalkIn
import Derived.RangeFuncBound
import Derived.RangeFuncCalls
import Derived.RangeFuncLeaves
import Derived.RangeFuncNested
import Derived.Shelf.Abstract
import Derived.Shelf.RegionOpen
import Derived.TacticsInMore
import Derived.Test.YtnpiepimajippaaRK1
import Derived.Test.YtnpiepimajippaaRK11
import Derived.Test.YtnpiepimajippaaRK4
import Derived.Test.YtnpiepimajippaaRK8
import Derived.WalkKit
namespace Go.Proofs.Ytnpiepimajippaa
open Go.RowKit St Pm
attribute [local go_sem] Oper.semAt_some
def zeroS : Sv := ⟨0, 0, ⟨#[]⟩, 0, 0⟩
def sinceK (s : Sv) : ByteArray := if s.ok = true then keyB s.st else ⟨#[]⟩
def sinceT (tr : Tr ByteArray) (s : Sv) : List Ev :=
 if (s = zeroS ∨ s.ok = true) ∧ (items tr).all goodP = true then ((fromL (sinceK s) tr).map decV).filter (fun x => decide (x.1 ≠ s)) else []
theorem since_14 (tr : Tr ByteArray) (s : Sv) (w : World) : Calls Try.prog 83 #[.agg #[.pointer (pa tr)], .agg #[.int .i64 s.g, .int .i64 s.r, .string s.l, .int .i64 s.n, .int .i64 s.i]] w fun e w' =>
   ∃ sb mb, e = .returned (.func (.func 115) #[] #[.pointer (some ⟨sb, 0, none⟩), .pointer (some ⟨mb, 0, none⟩)]) ∧ w.heap.size ≤ mb ∧ w.heap.size ≤ sb ∧ Boxed w' mb 27 (.pointer (pa tr)) ∧
     w'.heap[sb]? = some (.cells #[.int .i64 s.g, .int .i64 s.r, .string s.l, .int .i64 s.n, .int .i64 s.i] 41 (0, 0)) ∧ Below w.heap.size w w' := by
 have HC : Hid (Chain [w] w) := Lib.hid (Chain.one w)
 go_enter Try.func83, Try.ntmps83
 go_upto_region 1 with (fail)
 obtain ⟨z, hz⟩ : ∃ c, w.heap.size = c := ⟨_, rfl⟩
 try rw [hz]
 obtain ⟨w1, hw1⟩ : ∃ X, allocs w [.cells #[.pointer (pa tr)] 27, .cells #[.int .i64 s.g, .int .i64 s.r, .string s.l, .int .i64 s.n, .int .i64 s.i] 41] = X := ⟨_, rfl⟩
 rw [show (w.alloc (.cells #[.pointer (pa tr)] 27)).alloc (.cells #[.int .i64 s.g, .int .i64 s.r, .string s.l, .int .i64 s.n, .int .i64 s.i] 41) = w1 from hw1]
 have hb : Below w.heap.size w w1 := by rw [← hw1]; exact allocs_below _ _
 have HM : Hid (w1.heap[z]? = some (.cells #[.pointer (pa tr)] 27 (0, 0))) := Lib.hid (by have := allocs_get [.cells #[.pointer (pa tr)] 27, .cells #[.int .i64 s.g, .int .i64 s.r, .string s.l, .int .i64 s.n, .int .i64 s.i] 41] w 0 _ rfl; rw [hw1, hz] at this; exact this)
 have HS : Hid (w1.heap[z + 1]? = some (.cells #[.int .i64 s.g, .int .i64 s.r, .string s.l, .int .i64 s.n, .int .i64 s.i] 41 (0, 0))) := Lib.hid (by have := allocs_get [.cells #[.pointer (pa tr)] 27, .cells #[.int .i64 s.g, .int .i64 s.r, .string s.l, .int .i64 s.n, .int .i64 s.i] 41] w 1 _ rfl; rw [hw1, hz] at this; exact this)
 have Sz : Hid (w.heap.size = z) := Lib.hid hz
 replace HC := Lib.hid (HC.out.push hb)
 clear hb hw1 hz
 go_wp2_with fail
 go_ret
 exact ⟨z + 1, z, rfl, by have := Sz.out; omega, by have := Sz.out; omega, HM.out, HS.out, (HC.out.to w (by simp))⟩
theorem fromL_sub (key : ByteArray) : ∀ (t : Tr ByteArray) (p : ByteArray × ByteArray), p ∈ fromL key t → p ∈ items t
 | .nil, p, h => by cases h
 | .node b l k v r, p, h => by
   simp only [fromL] at h
   simp only [items, List.mem_append, List.mem_cons]
   split at h
   · exact .inr (.inr (fromL_sub key r p h))
   · rcases List.mem_append.1 h with h | h
     · exact .inl (fromL_sub key l p h)
     · rcases List.mem_cons.1 h with rfl | h
       · exact .inr (.inl rfl)
       · exact .inr (.inr (fromL_sub key r p h))
theorem KeepE.narrow {M M' : Nat} {S S' : Nat → Prop} {A B : World} (h : KeepE M S (fun _ => False) A B) (hM : M ≤ M') (hS : ∀ k, S' k → S k ∨ (M ≤ k ∧ k < A.heap.size)) : KeepE M' S' (fun _ => False) A B :=
 ⟨h.os, h.tape, h.output, h.size, fun k hk => by
   rcases hS k hk with h1 | ⟨h1, h2⟩
   · exact h.block k h1
   · have e : A.heap[k]? = some A.heap[k] := Array.getElem?_eq_getElem h2
     rw [h.rest k _ h1 e (fun _ _ _ _ h => h), e], fun k o hk ho hc => h.rest k o (Nat.le_trans hM hk) ho hc⟩
theorem keepE_own {β : Type} {M : Nat} {S : Nat → Prop} {A : World} (hS : ∀ k, S k → k < A.heap.size) : OwnFrom A.heap.size (fun (_ : β) W => KeepE M S (fun _ => False) A W) := by
 rintro _ X Y row h hg hr
 have hne : ∀ k, k < A.heap.size → k < X.heap.size → Y.heap[k]? = X.heap[k]? := fun k hk hx => hg.block k hx (fun e => by have := (hr k e.symm).1; omega)
 exact ⟨hg.os.trans h.os, hg.tape.trans h.tape, hg.output.trans h.output, Nat.le_trans h.size hg.size, fun k hk => (hne k (hS k hk) (Nat.lt_of_lt_of_le (hS k hk) h.size)).trans (h.block k hk), fun k o hk ho hc => by
   have hk2 := (Array.getElem?_eq_some_iff.1 ho).1
   exact (hne k hk2 (Nat.lt_of_lt_of_le hk2 h.size)).trans (h.rest k o hk ho hc)⟩
theorem filter_pre {L pre : List (ByteArray × ByteArray)} (f : Ev → Bool) (h : pre <+: L) : (pre.map decV).filter f <+: (L.map decV).filter f := by
 obtain ⟨q, rfl⟩ := h
 exact ⟨(q.map decV).filter f, by rw [List.map_append, List.filter_append]⟩
def fltS (s : Sv) (pre : List (ByteArray × ByteArray)) : List Ev := (pre.map decV).filter (fun x => decide (x.1 ≠ s))
theorem fltS_same {s : Sv} {pre : List (ByteArray × ByteArray)} {q : ByteArray × ByteArray} (h : (decV q).1 = s) : fltS s (pre ++ [q]) = fltS s pre := by
 unfold fltS
 rw [List.map_append, List.filter_append]
 simp [h]
theorem fltS_next {s : Sv} {pre : List (ByteArray × ByteArray)} {q : ByteArray × ByteArray} (h : (decV q).1 ≠ s) : fltS s (pre ++ [q]) = fltS s pre ++ [decV q] := by
 unfold fltS
 rw [List.map_append, List.filter_append]
 simp [h]
def SnI (J : List Ev → World → Prop) (s : Sv) (M : Nat) (S : Nat → Prop) (W5 : World) (pre : List (ByteArray × ByteArray)) (V : World) : Prop := J (fltS s pre) V ∧ KeepE M S (fun _ => False) W5 V
theorem snI_own {J : List Ev → World → Prop} {s : Sv} {M B : Nat} {S : Nat → Prop} {W5 : World} (hJo : OwnFrom B J) (hB : B ≤ W5.heap.size) (hS : ∀ k, S k → k < W5.heap.size) : OwnFrom W5.heap.size (SnI J s M S W5) := by
 rintro pre A A' row ⟨h1, h2⟩ hg hr
 exact ⟨hJo _ A A' row h1 hg (fun r e => ⟨Nat.le_trans hB (hr r e).1, (hr r e).2⟩), keepE_own (β := Unit) hS () A A' row h2 hg hr⟩
def SnX (Jx : List Ev → World → Prop) (L : List Ev) (V : World) : Prop := ∃ p, p <+: L ∧ Jx p V
theorem snX_own {β : Type} {Jx : List Ev → World → Prop} {L : List Ev} {B C : Nat} (hJo : OwnFrom B Jx) (hB : B ≤ C) : OwnFrom C (fun (_ : β) V => SnX Jx L V) := by
 rintro _ A A' row ⟨p, h1, h2⟩ hg hr
 exact ⟨p, h1, hJo _ A A' row h2 hg (fun r e => ⟨Nat.le_trans hB (hr r e).1, (hr r e).2⟩)⟩
set_option maxRecDepth 100000 in
set_option maxHeartbeats 4000000 in
theorem since1_14 (n : Nat) (hn : 4 ≤ n) (tr : Tr ByteArray) (s : Sv) (sb mb : Nat) (w : World) (S : Nat → Prop) (hs : w.heap[sb]? = some (.cells #[.int .i64 s.g, .int .i64 s.r, .string s.l, .int .i64 s.n, .int .i64 s.i] 41 (0, 0))) (hm : Boxed w mb 27 (.pointer (pa tr))) (h : AtS w tr) (hz : sz tr ≤ 100000) (hk : ∀ p ∈ items tr, p.1.size ≤ 9223372036854775807) (hl : s.l.size ≤ 9223372036854775807)
   (hS : ∀ k, S k → k < w.heap.size) (hSs : S sb) (hSt : ∀ b ∈ blocks tr, S b) :
   GoesOver n 115 #[.pointer (some ⟨sb, 0, none⟩), .pointer (some ⟨mb, 0, none⟩)] S (sinceT tr s) w := by
 intro ll J Jx W hW hW2 hJo hJxo hY h0
 have hJ : ∀ pre A B, J pre A → Below A.heap.size A B → J pre B := fun pre A B h hb => ownFrom_to hJo h hb
 have HSB : Hid (W.heap[sb]? = some (.cells #[.int .i64 s.g, .int .i64 s.r, .string s.l, .int .i64 s.n, .int .i64 s.i] 41 (0, 0))) := Lib.hid (boxStays hs hW)
 have HMB : Hid (W.heap[mb]? = some (.cells #[.pointer (pa tr)] 27 (0, 0))) := Lib.hid (boxStays hm hW)
 have T := Lib.hid (h.below hW rfl)
 have MY := Lib.hid (fun V (hV : Below W.heap.size W V) => may_14 tr V ((h.below hW rfl).below hV rfl) hz hk)
 have KY := Lib.hid (fun V => stp_Key s V hl)
 have HK := Lib.hid hk
 have HW2 := Lib.hid hW2
 have HHW := Lib.hid hW
 have HY := Lib.hid hY
 have HJ := Lib.hid hJ
 have HJo := Lib.hid hJo
 have HJxo := Lib.hid hJxo
 have HSS := Lib.hid hS
 have HST := Lib.hid hSt
 have HSs := Lib.hid hSs
 have H0 := Lib.hid h0
 have NZ : Hid (∀ V, (binOp .neq 41 (.agg #[.int .i64 s.g, .int .i64 s.r, .string s.l, .int .i64 s.n, .int .i64 s.i]) (.agg #[.int .i64 0, .int .i64 0, .string ⟨#[]⟩, .int .i64 0, .int .i64 0])).run Try.prog V = .ok (.bool (!decide (s = zeroS))) V) := Lib.hid (fun V => sv_neq s zeroS V)
 have SK : Hid ((if s.ok = true then (Value.tuple #[.string (keyB s.st), .int .i64 0]) else .tuple #[.string ⟨#[]⟩, .int .i64 2]) = .tuple #[.string (sinceK s), .int .i64 (if s.ok = true then (0 : Int) else 2)]) := Lib.hid (by unfold sinceK; split <;> rfl)
 have L1 : Hid (¬ (s = zeroS ∨ s.ok = true) → sinceT tr s = []) := Lib.hid (fun h => by unfold sinceT; rw [if_neg (fun e => h e.1)])
 have L2 : Hid ((items tr).all goodP = false → sinceT tr s = []) := Lib.hid (fun h => by unfold sinceT; rw [if_neg (fun e => by rw [h] at e; cases e.2)])
 have L3 : Hid ((s = zeroS ∨ s.ok = true) → (items tr).all goodP = true → sinceT tr s = ((fromL (sinceK s) tr).map decV).filter (fun x => decide (x.1 ≠ s))) := Lib.hid (fun h1 h2 => by unfold sinceT; rw [if_pos ⟨h1, h2⟩])
 obtain ⟨ev, hev⟩ : ∃ q : Int, (if s.ok = true then (0 : Int) else 2) = q := ⟨_, rfl⟩
 rw [hev] at SK
 obtain ⟨sbk, hsbk⟩ : ∃ q, s.ok = q := ⟨_, rfl⟩
 rw [hsbk] at hev
 have EV := Lib.hid hev
 clear hev
 have SBK := Lib.hid hsbk
 obtain ⟨sz0, hsz0⟩ : ∃ q, decide (s = zeroS) = q := ⟨_, rfl⟩
 obtain ⟨gd, hgd⟩ : ∃ q, (items tr).all goodP = q := ⟨_, rfl⟩
 have GD := Lib.hid hgd
 obtain ⟨key, hkey⟩ : ∃ q, sinceK s = q := ⟨_, rfl⟩
 obtain ⟨L, hL⟩ : ∃ q, sinceT tr s = q := ⟨_, rfl⟩
 rw [hkey] at SK L3
 rw [SK.out] at KY
 rw [hsbk] at L1 L3
 rw [hsz0] at NZ
 rw [hgd] at MY L2 L3
 rw [hL] at HY L1 L2 L3
 have Z0 : Hid (s = zeroS ↔ sz0 = true) := Lib.hid (by rw [← hsz0]; simp)
 rw [hL]
 clear hW hW2 hY h0 hm hs h hk hz hS hSt hSs hJo hJxo hJ hsbk hsz0 hgd hkey hL SK
 refine callsIn_of_wp_marks Try.func115 rfl trivial ?_ rfl
 simp only [Try.ntmps115, List.size_toArray, List.length_cons, List.length_nil, Nat.reduceAdd, Nat.reduceSub, Array.replicate_succ, Array.replicate_zero, List.push_toArray, List.append_toArray, List.nil_append, List.cons_append]
 refine wpIn_wide.2 ?_
 have HC : Hid (Chain [W] W) := Lib.hid (Chain.one W)
 go_upto_region 1 with (fail)
 obtain ⟨yb, hyb⟩ : ∃ c, W.heap.size = c := ⟨_, rfl⟩
 try rw [hyb]
 obtain ⟨W1, hW1⟩ : ∃ X, allocs W [.cells #[.func (.yield ll) #[] #[]] 45] = X := ⟨_, rfl⟩
 rw [show W.alloc (.cells #[.func (.yield ll) #[] #[]] 45) = W1 from hW1]
 have hb : Below W.heap.size W W1 := by rw [← hW1]; exact allocs_below _ _
 have HYB : Hid (W1.heap[yb]? = some (.cells #[.func (.yield ll) #[] #[]] 45 (0, 0))) := Lib.hid (by have := allocs_get [.cells #[.func (.yield ll) #[] #[]] 45] W 0 _ rfl; rw [hW1, hyb] at this; exact this)
 have Syb : Hid (W.heap.size = yb) := Lib.hid hyb
 replace HC := Lib.hid (HC.out.push hb)
 clear hb hW1 hyb
 have kSB0 := cell_of_row _ _ 0 _ _ _ (boxStays HSB.out (HC.out.to W (by simp)))
 have kSB1 := cell_of_row _ _ 1 _ _ _ (boxStays HSB.out (HC.out.to W (by simp)))
 have kSB2 := cell_of_row _ _ 2 _ _ _ (boxStays HSB.out (HC.out.to W (by simp)))
 have kSB3 := cell_of_row _ _ 3 _ _ _ (boxStays HSB.out (HC.out.to W (by simp)))
 have kSB4 := cell_of_row _ _ 4 _ _ _ (boxStays HSB.out (HC.out.to W (by simp)))
 go_wp2_with fail
 refine (KY.out _).mono ?_
 rintro e W2 ⟨rfl, hb⟩
 clear kSB0 kSB1 kSB2 kSB3 kSB4
 replace HC := Lib.hid (HC.out.push hb)
 clear hb
 go_upto_region 2 with (fail)
 cases sbk
 case true =>
   have NZ0 : Hid (sz0 = false) := Lib.hid (by
     cases sz0 with
     | false => rfl
     | true => have h1 := Z0.out.2 rfl; rw [h1] at SBK; cases SBK.out)
   obtain rfl := NZ0.out
   obtain rfl : ev = 0 := by rw [← EV.out]; rfl
   have OKS : Hid (s = zeroS ∨ true = true) := Lib.hid (.inr rfl)
   have kSB0 := cell_of_row _ _ 0 _ _ _ (boxStays HSB.out (HC.out.to W (by simp)))
   have kSB1 := cell_of_row _ _ 1 _ _ _ (boxStays HSB.out (HC.out.to W (by simp)))
   have kSB2 := cell_of_row _ _ 2 _ _ _ (boxStays HSB.out (HC.out.to W (by simp)))
   have kSB3 := cell_of_row _ _ 3 _ _ _ (boxStays HSB.out (HC.out.to W (by simp)))
   have kSB4 := cell_of_row _ _ 4 _ _ _ (boxStays HSB.out (HC.out.to W (by simp)))
   have kMB0 := cell_of_one (boxStays HMB.out (HC.out.to W (by simp)))
   have nz := NZ.out
   go_wp2_with fail
   clear nz
   refine (MY.out _ (HC.out.to W (by simp))).mono ?_
   rintro e W3 ⟨rfl, hb⟩
   clear kSB0 kSB1 kSB2 kSB3 kSB4 kMB0
   replace HC := Lib.hid (HC.out.push hb)
   clear hb
   cases gd
   case false =>
     have E0 := Lib.hid (L2.out (by simp))
     go_wp2_with fail
     have BW := Lib.hid (HC.out.to W (by simp))
     try show LeavesInM _ _ _ _ _ _ (marks []) _ _
     refine leaves_marks [] _ (by simp) (fun p hp => by cases hp) ?_
     intro W' e1 e2 e3 e4 e5
     have bW : Below W.heap.size W W' := ⟨e1.trans BW.out.os, e2.trans BW.out.tape, e3.trans BW.out.output, by rw [e4]; exact BW.out.size, fun k hk => (e5 k (by simp)).trans (BW.out.block k hk)⟩
     exact ⟨.tuple #[], by simp [results, Try.results115, go_sem], ⟨_, rfl⟩, .inl ⟨[], W', HJ.out _ _ _ H0.out bW, E0.out.symm, Below.refl _ _⟩⟩
   case true =>
   have HL := Lib.hid (L3.out OKS.out (by simp))
   clear L1 L2 L3
   go_upto_region 3 with (fail)
   have kMB0 := cell_of_one (boxStays HMB.out (HC.out.to W (by simp)))
   have W3Z : Hid (W.heap.size ≤ W3.heap.size) := Lib.hid (HC.out.to W (by simp)).size
   go_wp2_with fail
   refine (pm_MFromS tr key _).mono ?_
   rintro e W5 ⟨kb, mb2, rfl, hkb, hmb, hbk, hbm, hb⟩
   clear kMB0
   replace HC := Lib.hid (HC.out.push hb)
   clear hb
   have BW5 := Lib.hid (HC.out.to W (by simp))
   have HY5 := Lib.hid (boxStays HYB.out (HC.out.to W1 (by simp)))
   have HS5 := Lib.hid (boxStays HSB.out (HC.out.to W (by simp)))
   have hT5 := T.out.below (HC.out.to W (by simp)) rfl
   have hw5 : W.heap.size ≤ W5.heap.size := (HC.out.to W (by simp)).size
   have hM5 : w.heap.size + 2 ≤ W5.heap.size := Nat.le_trans HW2.out hw5
   have hyb : w.heap.size + 2 ≤ yb ∧ yb < W5.heap.size := ⟨by rw [← Syb.out]; exact HW2.out, (Array.getElem?_eq_some_iff.1 HY5.out).1⟩
   have hkbz : w.heap.size + 2 ≤ kb := Nat.le_trans (Nat.le_trans HW2.out W3Z.out) hkb
   have hS5 : ∀ k, S k → k < W5.heap.size := fun k hk => by have := HSS.out k hk; omega
   have hSlt : ∀ k, (k = kb ∨ k ∈ blocks tr) → k < W5.heap.size := fun k hk => by
     rcases hk with rfl | hk
     · exact (Array.getElem?_eq_some_iff.1 hbk).1
     · exact hT5.lt k hk
   have HIter := pm_from_iterS (n - 1) key tr kb mb2 W5 (fun k => k = kb ∨ k ∈ blocks tr) (fun _ => False) hbk hbm hT5 (.inl rfl) (fun k hk => .inr hk) hSlt (fun h => h) (fun h => h)
   have r5 : SnI J s (w.heap.size + 2) S W5 [] W5 := ⟨HJ.out _ _ _ H0.out BW5.out, KeepE.refl _⟩
   have OWN := snI_own (s := s) (M := w.heap.size + 2) HJo.out hw5 hS5
   clear hT5 hbk hbm hkb hmb HC
   go_wp2_with fail
   refine (wpIn_wide (n := n)).1 ?_
   refine range_law2 (n := n) rfl (enters_of Try.func139 (by kernel_rfl) rfl) HIter (by omega) KeepE.trans (fun W o o' _ _ => KeepE.put W _ o' (by omega) (fun k hk => by have := hSlt k hk; omega)) (fun x => rfl) (fun pre => (by rintro _ _ _ _ h _ _; exact h)) ?_ (SnI J s (w.heap.size + 2) S W5) (fun c pre V => c = .ret ∧ SnX Jx L V) (fun xs V => xs = fromL key tr ∧ SnI J s (w.heap.size + 2) S W5 xs V) OWN ?_ ?_ ?_ r5
     (fun pre q a' V => SnI J s (w.heap.size + 2) S W5 pre V ∧ pre ++ [q] <+: fromL key tr ∧ a' = { tmps := #[.func (.yield ll) #[] #[], .pointer (some ⟨sb, 0, none⟩), .pointer (some ⟨mb, 0, none⟩), .pointer (some ⟨yb, 0, none⟩), .string key, .int .i64 0, .string q.1, .string q.2, undef, undef, .tuple #[.string key, .int .i64 0], .agg #[.int .i64 s.g, .int .i64 s.r, .string s.l, .int .i64 s.n, .int .i64 s.i], .tuple #[.string key, .int .i64 0], .string key, .int .i64 0, .agg #[.int .i64 s.g, .int .i64 s.r, .string s.l, .int .i64 s.n, .int .i64 s.i], .agg #[.int .i64 0, .int .i64 0, .string ⟨#[]⟩, .int .i64 0, .int .i64 0], .bool true, .bool true, cond true (.int .i64 0) undef, cond true (.bool false) undef, .bool false, .bool false, .agg #[.pointer (pa tr)], .bool true, .bool false, .bool false, .agg #[.pointer (pa tr)], .string key, .func (.func 139) #[] #[.pointer (some ⟨kb, 0, none⟩), .pointer (some ⟨mb2, 0, none⟩)], .string q.1, .string q.2, undef, undef, undef, undef, undef, undef, undef, undef, undef, undef, undef, undef, undef, undef, undef], defers := [] }) ?_ ?assign ?body ?done ?stop
   · rintro W1 _ xs A B ⟨_, rfl⟩ k o _ ho _; exact ho
   · rintro c xs A A' row ⟨h1, h2⟩ hg hr
     exact ⟨h1, snX_own (β := Unit) HJxo.out hw5 () A A' row h2 hg hr⟩
   · rintro xs A A' row ⟨h1, h2⟩ hg hr
     exact ⟨h1, OWN xs A A' row h2 hg hr⟩
   · rintro W1 _ xs A B h ⟨h1, rfl⟩; exact ⟨h1, h⟩
   · rintro q a' pre A A' row ⟨h1, h2, h3⟩ hg hr
     exact ⟨OWN pre A A' row h1 hg hr, h2, h3⟩
   case assign =>
     intro l pre q V K hi hx hsz hK
     have HI := Lib.hid hi
     clear hi
     simp only [encKVS, List.zip_toArray, List.zip_cons_cons, List.zip_nil_right, List.foldl_toArray, List.foldl_cons, List.foldl_nil]
     gi_wp2
     exact hK _ _ ⟨Nat.le_refl _, fun _ _ _ h _ => h⟩ (KeepE.refl _) hsz ⟨HI.out, hx, rfl⟩
   case body =>
     rintro l pre ⟨k, v⟩ a' V ⟨⟨h1, h2⟩, hp, rfl⟩ hsz
     simp only [cond]
     have hmem : (k, v) ∈ items tr := fromL_sub key tr _ (hp.subset (by simp))
     have hks := HK.out _ hmem
     have hgp : goodP (k, v) = true := List.all_eq_true.1 GD.out _ hmem
     obtain ⟨st, hst⟩ : ∃ st, ofK k = some st := by
       unfold goodP at hgp
       simp only [Bool.and_eq_true] at hgp
       exact Option.isSome_iff_exists.1 hgp.1
     have hdec : decV (k, v) = (st, v) := by unfold decV; rw [show (k, v).1 = k from rfl, hst]; rfl
     have DEC := Lib.hid hdec
     have hOK := stp_OfKey k V hks
     rw [hst] at hOK
     have OK := Lib.hid hOK
     have J6 := Lib.hid h1
     have K6 := Lib.hid h2
     have HP := Lib.hid hp
     have S6 := Lib.hid ((h2.block sb HSs.out).trans HS5.out)
     have Y6 := Lib.hid (h2.rest yb _ hyb.1 HY5.out (fun _ _ _ _ h => h))
     have EN := Lib.hid (fun X => sv_neq st s X)
     clear HIter r5 h1 h2 hp hmem hks hgp hst hdec hOK OWN
     gi_wp2
     refine ⟨trivial, fun _ => by omega, ?_⟩
     refine (CallsIn.inRound l (callsIn_wide.2 OK.out)).mono ?_
     rintro e V2 ⟨rfl, hb⟩
     simp only [stO, stA]
     have bS := below_new V2 (.cells #[.int .i64 st.g, .int .i64 st.r, .string st.l, .int .i64 st.n, .int .i64 st.i] 41)
     have xS := heap_alloc_new V2 (.cells #[.int .i64 st.g, .int .i64 st.r, .string st.l, .int .i64 st.n, .int .i64 st.i] 41)
     have BS : Hid (Below V.heap.size V (V2.alloc (.cells #[.int .i64 st.g, .int .i64 st.r, .string st.l, .int .i64 st.n, .int .i64 st.i] 41))) := Lib.hid (hb.trans (bS.mono hb.size))
     have GO1 : Hid (∀ X, Below V.heap.size V X → KeepE (w.heap.size + 2) S (fun _ => False) V X) := Lib.hid (fun X hX => KeepE.below hX (fun k hk => by have := hS5 k hk; omega))
     have S8 := boxStays S6.out BS.out
     have y0 := cell_of_one (boxStays Y6.out BS.out)
     have JX8 := Lib.hid (HJ.out _ _ _ J6.out BS.out)
     have s0 := cell_of_row _ _ 0 _ _ _ S8
     have s1 := cell_of_row _ _ 1 _ _ _ S8
     have s2 := cell_of_row _ _ 2 _ _ _ S8
     have s3 := cell_of_row _ _ 3 _ _ _ S8
     have s4 := cell_of_row _ _ 4 _ _ _ S8
     have q0 := cell_of_row _ _ 0 _ _ _ xS
     have q1 := cell_of_row _ _ 1 _ _ _ xS
     have q2 := cell_of_row _ _ 2 _ _ _ xS
     have q3 := cell_of_row _ _ 3 _ _ _ xS
     have q4 := cell_of_row _ _ 4 _ _ _ xS
     have KF : Hid (∀ X, KeepE (w.heap.size + 2) S (fun _ => False) V X → KeepsFrom W5.heap.size V X ∧ KeepE (W5.heap.size + 2) (fun k => k = kb ∨ k ∈ blocks tr) (fun _ => False) V X) := Lib.hid (fun X hX =>
       ⟨⟨hX.size, fun k o hk ho _ => hX.rest k o (by omega) ho (fun _ _ _ _ h => h)⟩, hX.narrow (by omega) (fun k hk => by
         rcases hk with rfl | hk
         · exact .inr ⟨hkbz, by have := hSlt k (.inl rfl); omega⟩
         · exact .inl (HST.out k hk))⟩)
     clear hb bS xS S8
     by_cases he : st = s
     · have FIN := Lib.hid (show SnI J s (w.heap.size + 2) S W5 (pre ++ [(k, v)]) (V2.alloc (.cells #[.int .i64 st.g, .int .i64 st.r, .string st.l, .int .i64 st.n, .int .i64 st.i] 41)) from
         ⟨by rw [fltS_same (by rw [DEC.out]; exact he)]; exact JX8.out, K6.out.trans (GO1.out _ BS.out)⟩)
       have KK := Lib.hid (KF.out _ (GO1.out _ BS.out))
       have en := EN.out
       simp only [decide_eq_true he, Bool.not_true] at en
       clear he
       gi_wp2
       refine ⟨fun f h => (by cases h), ?_⟩
       gi_wp2
       exact ⟨KK.out.1, KK.out.2, FIN.out⟩
     · have hx : fltS s pre ++ [(st, v)] <+: L := by
         have h1 := filter_pre (fun x => decide (x.1 ≠ s)) HP.out
         rw [HL.out]
         have h2 := fltS_next (s := s) (pre := pre) (q := (k, v)) (by rw [DEC.out]; exact he)
         rw [DEC.out] at h2
         rw [← h2]
         exact h1
       have PX := Lib.hid hx
       have FNX : Hid (fltS s (pre ++ [(k, v)]) = fltS s pre ++ [(st, v)]) := Lib.hid (by rw [fltS_next (by rw [DEC.out]; exact he), DEC.out])
       have en := EN.out
       simp only [decide_eq_false he, Bool.not_false] at en
       have HYY := yieldW (m' := 5) (HY.out _ (st, v) _ JX8.out hx)
       clear hx he
       obtain ⟨fn, tmps, assign, body', hyy, hRR⟩ := HYY
       simp only [encEls] at hyy
       have RR := Lib.hid hRR
       have GS := Lib.hid (GO1.out _ BS.out)
       clear hRR
       gi_wp2
       refine ⟨fun _ => by omega, RoundIn.mono (roundR RR.out) ?_⟩
       rintro e V4 (⟨rfl, hJ', hk⟩ | ⟨rfl, hJx', hk⟩)
       · have KK := Lib.hid (KF.out _ (GS.out.trans hk))
         have FIN := Lib.hid (show SnI J s (w.heap.size + 2) S W5 (pre ++ [(k, v)]) V4 from ⟨by rw [FNX.out]; exact hJ', (K6.out.trans GS.out).trans hk⟩)
         clear hJ' hk hyy
         gi_wp2
         exact ⟨KK.out.1, KK.out.2, FIN.out⟩
       · have KK := Lib.hid (KF.out _ (GS.out.trans hk))
         have FIN := Lib.hid (show SnX Jx L V4 from ⟨_, PX.out, hJx'⟩)
         clear hJx' hk hyy
         gi_wp2
         exact ⟨KK.out.1, KK.out.2, rfl, FIN.out⟩
   case done =>
     rintro D xs V hD ⟨rfl, h1, h2⟩ hK
     have HKD := Lib.hid hK
     have J6 := Lib.hid h1
     clear HIter r5 h1 h2 hK OWN
     simp only [Exit.inBlock]
     go_wp2_with fail
     try show LeavesInM _ _ _ _ _ _ (marks [D]) _ _
     refine leaves_marks [D] _ (by simp) (fun p hp => ?_) ?_
     · obtain rfl : p = (D, .deferred (some [])) := by simpa [markF] using hp
       exact HKD.out
     · intro W' e1 e2 e3 e4 e5
       exact ⟨.tuple #[], by simp [results, Try.results115, go_sem], ⟨_, rfl⟩, .inl ⟨fltS s (fromL key tr), V, J6.out, HL.out.symm, ⟨e1, e2, e3, Nat.le_of_eq e4.symm, fun k hk => e5 k (by simp; omega)⟩⟩⟩
   case stop =>
     rintro D c pre V hD hSp ⟨rfl, p, hp, hx⟩ hK
     have HKD := Lib.hid hK
     have JX := Lib.hid hx
     clear HIter r5 hx hK OWN
     gi_wp2
     try show LeavesInM _ _ _ _ _ _ (marks [D]) _ _
     refine leaves_marks [D] _ (by simp) (fun p hp => ?_) ?_
     · obtain rfl : p = (D, .deferred (some [])) := by simpa [markF] using hp
       exact HKD.out
     · intro W' e1 e2 e3 e4 e5
       exact ⟨.tuple #[], by simp [results, Try.results115, go_sem], ⟨_, rfl⟩, .inr ⟨p, hp, HJxo.out p V W' (some D) JX.out ⟨e1, e2, e3, Nat.le_of_eq e4.symm, fun k _ hne => e5 k (by simp; exact fun e => hne (by rw [e]))⟩ (fun r e => by cases e; exact ⟨by omega, _, HKD.out, rfl⟩)⟩⟩
 case false =>
   cases sz0
   case false =>
     obtain rfl : ev = 2 := by rw [← EV.out]; rfl
     have E0 := Lib.hid (L1.out (by rintro (h | h); have := Z0.out.1 h; cases this; cases h))
     have kSB0 := cell_of_row _ _ 0 _ _ _ (boxStays HSB.out (HC.out.to W (by simp)))
     have kSB1 := cell_of_row _ _ 1 _ _ _ (boxStays HSB.out (HC.out.to W (by simp)))
     have kSB2 := cell_of_row _ _ 2 _ _ _ (boxStays HSB.out (HC.out.to W (by simp)))
     have kSB3 := cell_of_row _ _ 3 _ _ _ (boxStays HSB.out (HC.out.to W (by simp)))
     have kSB4 := cell_of_row _ _ 4 _ _ _ (boxStays HSB.out (HC.out.to W (by simp)))
     have nz := NZ.out
     go_wp2_with fail
     have BW := Lib.hid (HC.out.to W (by simp))
     try show LeavesInM _ _ _ _ _ _ (marks []) _ _
     refine leaves_marks [] _ (by simp) (fun p hp => by cases hp) ?_
     intro W' e1 e2 e3 e4 e5
     have bW : Below W.heap.size W W' := ⟨e1.trans BW.out.os, e2.trans BW.out.tape, e3.trans BW.out.output, by rw [e4]; exact BW.out.size, fun k hk => (e5 k (by simp)).trans (BW.out.block k hk)⟩
     exact ⟨.tuple #[], by simp [results, Try.results115, go_sem], ⟨_, rfl⟩, .inl ⟨[], W', HJ.out _ _ _ H0.out bW, E0.out.symm, Below.refl _ _⟩⟩
   case true =>
     obtain rfl : ev = 2 := by rw [← EV.out]; rfl
     have OKS : Hid (s = zeroS ∨ false = true) := Lib.hid (.inl (Z0.out.2 rfl))
     have kSB0 := cell_of_row _ _ 0 _ _ _ (boxStays HSB.out (HC.out.to W (by simp)))
     have kSB1 := cell_of_row _ _ 1 _ _ _ (boxStays HSB.out (HC.out.to W (by simp)))
     have kSB2 := cell_of_row _ _ 2 _ _ _ (boxStays HSB.out (HC.out.to W (by simp)))
     have kSB3 := cell_of_row _ _ 3 _ _ _ (boxStays HSB.out (HC.out.to W (by simp)))
     have kSB4 := cell_of_row _ _ 4 _ _ _ (boxStays HSB.out (HC.out.to W (by simp)))
     have kMB0 := cell_of_one (boxStays HMB.out (HC.out.to W (by simp)))
     have nz := NZ.out
     go_wp2_with fail
     clear nz
     refine (MY.out _ (HC.out.to W (by simp))).mono ?_
     rintro e W3 ⟨rfl, hb⟩
     clear kSB0 kSB1 kSB2 kSB3 kSB4 kMB0
     replace HC := Lib.hid (HC.out.push hb)
     clear hb
     cases gd
     case false =>
       have E0 := Lib.hid (L2.out (by simp))
       go_wp2_with fail
       have BW := Lib.hid (HC.out.to W (by simp))
       try show LeavesInM _ _ _ _ _ _ (marks []) _ _
       refine leaves_marks [] _ (by simp) (fun p hp => by cases hp) ?_
       intro W' e1 e2 e3 e4 e5
       have bW : Below W.heap.size W W' := ⟨e1.trans BW.out.os, e2.trans BW.out.tape, e3.trans BW.out.output, by rw [e4]; exact BW.out.size, fun k hk => (e5 k (by simp)).trans (BW.out.block k hk)⟩
       exact ⟨.tuple #[], by simp [results, Try.results115, go_sem], ⟨_, rfl⟩, .inl ⟨[], W', HJ.out _ _ _ H0.out bW, E0.out.symm, Below.refl _ _⟩⟩
     case true =>
     have HL := Lib.hid (L3.out OKS.out (by simp))
     clear L1 L2 L3
     go_upto_region 3 with (fail)
     have kMB0 := cell_of_one (boxStays HMB.out (HC.out.to W (by simp)))
     have W3Z : Hid (W.heap.size ≤ W3.heap.size) := Lib.hid (HC.out.to W (by simp)).size
     go_wp2_with fail
     refine (pm_MFromS tr key _).mono ?_
     rintro e W5 ⟨kb, mb2, rfl, hkb, hmb, hbk, hbm, hb⟩
     clear kMB0
     replace HC := Lib.hid (HC.out.push hb)
     clear hb
     have BW5 := Lib.hid (HC.out.to W (by simp))
     have HY5 := Lib.hid (boxStays HYB.out (HC.out.to W1 (by simp)))
     have HS5 := Lib.hid (boxStays HSB.out (HC.out.to W (by simp)))
     have hT5 := T.out.below (HC.out.to W (by simp)) rfl
     have hw5 : W.heap.size ≤ W5.heap.size := (HC.out.to W (by simp)).size
     have hM5 : w.heap.size + 2 ≤ W5.heap.size := Nat.le_trans HW2.out hw5
     have hyb : w.heap.size + 2 ≤ yb ∧ yb < W5.heap.size := ⟨by rw [← Syb.out]; exact HW2.out, (Array.getElem?_eq_some_iff.1 HY5.out).1⟩
     have hkbz : w.heap.size + 2 ≤ kb := Nat.le_trans (Nat.le_trans HW2.out W3Z.out) hkb
     have hS5 : ∀ k, S k → k < W5.heap.size := fun k hk => by have := HSS.out k hk; omega
     have hSlt : ∀ k, (k = kb ∨ k ∈ blocks tr) → k < W5.heap.size := fun k hk => by
       rcases hk with rfl | hk
       · exact (Array.getElem?_eq_some_iff.1 hbk).1
       · exact hT5.lt k hk
     have HIter := pm_from_iterS (n - 1) key tr kb mb2 W5 (fun k => k = kb ∨ k ∈ blocks tr) (fun _ => False) hbk hbm hT5 (.inl rfl) (fun k hk => .inr hk) hSlt (fun h => h) (fun h => h)
     have r5 : SnI J s (w.heap.size + 2) S W5 [] W5 := ⟨HJ.out _ _ _ H0.out BW5.out, KeepE.refl _⟩
     have OWN := snI_own (s := s) (M := w.heap.size + 2) HJo.out hw5 hS5
     clear hT5 hbk hbm hkb hmb HC
     go_wp2_with fail
     refine (wpIn_wide (n := n)).1 ?_
     refine range_law2 (n := n) rfl (enters_of Try.func139 (by kernel_rfl) rfl) HIter (by omega) KeepE.trans (fun W o o' _ _ => KeepE.put W _ o' (by omega) (fun k hk => by have := hSlt k hk; omega)) (fun x => rfl) (fun pre => (by rintro _ _ _ _ h _ _; exact h)) ?_ (SnI J s (w.heap.size + 2) S W5) (fun c pre V => c = .ret ∧ SnX Jx L V) (fun xs V => xs = fromL key tr ∧ SnI J s (w.heap.size + 2) S W5 xs V) OWN ?_ ?_ ?_ r5
       (fun pre q a' V => SnI J s (w.heap.size + 2) S W5 pre V ∧ pre ++ [q] <+: fromL key tr ∧ a' = { tmps := #[.func (.yield ll) #[] #[], .pointer (some ⟨sb, 0, none⟩), .pointer (some ⟨mb, 0, none⟩), .pointer (some ⟨yb, 0, none⟩), .string key, .int .i64 2, .string q.1, .string q.2, undef, undef, .tuple #[.string key, .int .i64 2], .agg #[.int .i64 s.g, .int .i64 s.r, .string s.l, .int .i64 s.n, .int .i64 s.i], .tuple #[.string key, .int .i64 2], .string key, .int .i64 2, .agg #[.int .i64 s.g, .int .i64 s.r, .string s.l, .int .i64 s.n, .int .i64 s.i], .agg #[.int .i64 0, .int .i64 0, .string ⟨#[]⟩, .int .i64 0, .int .i64 0], .bool false, .bool false, cond false (.int .i64 0) undef, cond false (.bool false) undef, .bool false, .bool false, .agg #[.pointer (pa tr)], .bool true, .bool false, .bool false, .agg #[.pointer (pa tr)], .string key, .func (.func 139) #[] #[.pointer (some ⟨kb, 0, none⟩), .pointer (some ⟨mb2, 0, none⟩)], .string q.1, .string q.2, undef, undef, undef, undef, undef, undef, undef, undef, undef, undef, undef, undef, undef, undef, undef], defers := [] }) ?_ ?assign ?body ?done ?stop
     · rintro W1 _ xs A B ⟨_, rfl⟩ k o _ ho _; exact ho
     · rintro c xs A A' row ⟨h1, h2⟩ hg hr
       exact ⟨h1, snX_own (β := Unit) HJxo.out hw5 () A A' row h2 hg hr⟩
     · rintro xs A A' row ⟨h1, h2⟩ hg hr
       exact ⟨h1, OWN xs A A' row h2 hg hr⟩
     · rintro W1 _ xs A B h ⟨h1, rfl⟩; exact ⟨h1, h⟩
     · rintro q a' pre A A' row ⟨h1, h2, h3⟩ hg hr
       exact ⟨OWN pre A A' row h1 hg hr, h2, h3⟩
     case assign =>
       intro l pre q V K hi hx hsz hK
       have HI := Lib.hid hi
       clear hi
       simp only [encKVS, List.zip_toArray, List.zip_cons_cons, List.zip_nil_right, List.foldl_toArray, List.foldl_cons, List.foldl_nil]
       gi_wp2
       exact hK _ _ ⟨Nat.le_refl _, fun _ _ _ h _ => h⟩ (KeepE.refl _) hsz ⟨HI.out, hx, rfl⟩
     case body =>
       rintro l pre ⟨k, v⟩ a' V ⟨⟨h1, h2⟩, hp, rfl⟩ hsz
       simp only [cond]
       have hmem : (k, v) ∈ items tr := fromL_sub key tr _ (hp.subset (by simp))
       have hks := HK.out _ hmem
       have hgp : goodP (k, v) = true := List.all_eq_true.1 GD.out _ hmem
       obtain ⟨st, hst⟩ : ∃ st, ofK k = some st := by
         unfold goodP at hgp
         simp only [Bool.and_eq_true] at hgp
         exact Option.isSome_iff_exists.1 hgp.1
       have hdec : decV (k, v) = (st, v) := by unfold decV; rw [show (k, v).1 = k from rfl, hst]; rfl
       have DEC := Lib.hid hdec
       have hOK := stp_OfKey k V hks
       rw [hst] at hOK
       have OK := Lib.hid hOK
       have J6 := Lib.hid h1
       have K6 := Lib.hid h2
       have HP := Lib.hid hp
       have S6 := Lib.hid ((h2.block sb HSs.out).trans HS5.out)
       have Y6 := Lib.hid (h2.rest yb _ hyb.1 HY5.out (fun _ _ _ _ h => h))
       have EN := Lib.hid (fun X => sv_neq st s X)
       clear HIter r5 h1 h2 hp hmem hks hgp hst hdec hOK OWN
       gi_wp2
       refine ⟨trivial, fun _ => by omega, ?_⟩
       refine (CallsIn.inRound l (callsIn_wide.2 OK.out)).mono ?_
       rintro e V2 ⟨rfl, hb⟩
       simp only [stO, stA]
       have bS := below_new V2 (.cells #[.int .i64 st.g, .int .i64 st.r, .string st.l, .int .i64 st.n, .int .i64 st.i] 41)
       have xS := heap_alloc_new V2 (.cells #[.int .i64 st.g, .int .i64 st.r, .string st.l, .int .i64 st.n, .int .i64 st.i] 41)
       have BS : Hid (Below V.heap.size V (V2.alloc (.cells #[.int .i64 st.g, .int .i64 st.r, .string st.l, .int .i64 st.n, .int .i64 st.i] 41))) := Lib.hid (hb.trans (bS.mono hb.size))
       have GO1 : Hid (∀ X, Below V.heap.size V X → KeepE (w.heap.size + 2) S (fun _ => False) V X) := Lib.hid (fun X hX => KeepE.below hX (fun k hk => by have := hS5 k hk; omega))
       have S8 := boxStays S6.out BS.out
       have y0 := cell_of_one (boxStays Y6.out BS.out)
       have JX8 := Lib.hid (HJ.out _ _ _ J6.out BS.out)
       have s0 := cell_of_row _ _ 0 _ _ _ S8
       have s1 := cell_of_row _ _ 1 _ _ _ S8
       have s2 := cell_of_row _ _ 2 _ _ _ S8
       have s3 := cell_of_row _ _ 3 _ _ _ S8
       have s4 := cell_of_row _ _ 4 _ _ _ S8
       have q0 := cell_of_row _ _ 0 _ _ _ xS
       have q1 := cell_of_row _ _ 1 _ _ _ xS
       have q2 := cell_of_row _ _ 2 _ _ _ xS
       have q3 := cell_of_row _ _ 3 _ _ _ xS
       have q4 := cell_of_row _ _ 4 _ _ _ xS
       have KF : Hid (∀ X, KeepE (w.heap.size + 2) S (fun _ => False) V X → KeepsFrom W5.heap.size V X ∧ KeepE (W5.heap.size + 2) (fun k => k = kb ∨ k ∈ blocks tr) (fun _ => False) V X) := Lib.hid (fun X hX =>
         ⟨⟨hX.size, fun k o hk ho _ => hX.rest k o (by omega) ho (fun _ _ _ _ h => h)⟩, hX.narrow (by omega) (fun k hk => by
           rcases hk with rfl | hk
           · exact .inr ⟨hkbz, by have := hSlt k (.inl rfl); omega⟩
           · exact .inl (HST.out k hk))⟩)
       clear hb bS xS S8
       by_cases he : st = s
       · have FIN := Lib.hid (show SnI J s (w.heap.size + 2) S W5 (pre ++ [(k, v)]) (V2.alloc (.cells #[.int .i64 st.g, .int .i64 st.r, .string st.l, .int .i64 st.n, .int .i64 st.i] 41)) from
           ⟨by rw [fltS_same (by rw [DEC.out]; exact he)]; exact JX8.out, K6.out.trans (GO1.out _ BS.out)⟩)
         have KK := Lib.hid (KF.out _ (GO1.out _ BS.out))
         have en := EN.out
         simp only [decide_eq_true he, Bool.not_true] at en
         clear he
         gi_wp2
         refine ⟨fun f h => (by cases h), ?_⟩
         gi_wp2
         exact ⟨KK.out.1, KK.out.2, FIN.out⟩
       · have hx : fltS s pre ++ [(st, v)] <+: L := by
           have h1 := filter_pre (fun x => decide (x.1 ≠ s)) HP.out
           rw [HL.out]
           have h2 := fltS_next (s := s) (pre := pre) (q := (k, v)) (by rw [DEC.out]; exact he)
           rw [DEC.out] at h2
           rw [← h2]
           exact h1
         have PX := Lib.hid hx
         have FNX : Hid (fltS s (pre ++ [(k, v)]) = fltS s pre ++ [(st, v)]) := Lib.hid (by rw [fltS_next (by rw [DEC.out]; exact he), DEC.out])
         have en := EN.out
         simp only [decide_eq_false he, Bool.not_false] at en
         have HYY := yieldW (m' := 5) (HY.out _ (st, v) _ JX8.out hx)
         clear hx he
         obtain ⟨fn, tmps, assign, body', hyy, hRR⟩ := HYY
         simp only [encEls] at hyy
         have RR := Lib.hid hRR
         have GS := Lib.hid (GO1.out _ BS.out)
         clear hRR
         gi_wp2
         refine ⟨fun _ => by omega, RoundIn.mono (roundR RR.out) ?_⟩
         rintro e V4 (⟨rfl, hJ', hk⟩ | ⟨rfl, hJx', hk⟩)
         · have KK := Lib.hid (KF.out _ (GS.out.trans hk))
           have FIN := Lib.hid (show SnI J s (w.heap.size + 2) S W5 (pre ++ [(k, v)]) V4 from ⟨by rw [FNX.out]; exact hJ', (K6.out.trans GS.out).trans hk⟩)
           clear hJ' hk hyy
           gi_wp2
           exact ⟨KK.out.1, KK.out.2, FIN.out⟩
         · have KK := Lib.hid (KF.out _ (GS.out.trans hk))
           have FIN := Lib.hid (show SnX Jx L V4 from ⟨_, PX.out, hJx'⟩)
           clear hJx' hk hyy
           gi_wp2
           exact ⟨KK.out.1, KK.out.2, rfl, FIN.out⟩
     case done =>
       rintro D xs V hD ⟨rfl, h1, h2⟩ hK
       have HKD := Lib.hid hK
       have J6 := Lib.hid h1
       clear HIter r5 h1 h2 hK OWN
       simp only [Exit.inBlock]
       go_wp2_with fail
       try show LeavesInM _ _ _ _ _ _ (marks [D]) _ _
       refine leaves_marks [D] _ (by simp) (fun p hp => ?_) ?_
       · obtain rfl : p = (D, .deferred (some [])) := by simpa [markF] using hp
         exact HKD.out
       · intro W' e1 e2 e3 e4 e5
         exact ⟨.tuple #[], by simp [results, Try.results115, go_sem], ⟨_, rfl⟩, .inl ⟨fltS s (fromL key tr), V, J6.out, HL.out.symm, ⟨e1, e2, e3, Nat.le_of_eq e4.symm, fun k hk => e5 k (by simp; omega)⟩⟩⟩
     case stop =>
       rintro D c pre V hD hSp ⟨rfl, p, hp, hx⟩ hK
       have HKD := Lib.hid hK
       have JX := Lib.hid hx
       clear HIter r5 hx hK OWN
       gi_wp2
       try show LeavesInM _ _ _ _ _ _ (marks [D]) _ _
       refine leaves_marks [D] _ (by simp) (fun p hp => ?_) ?_
       · obtain rfl : p = (D, .deferred (some [])) := by simpa [markF] using hp
         exact HKD.out
       · intro W' e1 e2 e3 e4 e5
         exact ⟨.tuple #[], by simp [results, Try.results115, go_sem], ⟨_, rfl⟩, .inr ⟨p, hp, HJxo.out p V W' (some D) JX.out ⟨e1, e2, e3, Nat.le_of_eq e4.symm, fun k _ hne => e5 k (by simp; exact fun e => hne (by rw [e]))⟩ (fun r e => by cases e; exact ⟨by omega, _, HKD.out, rfl⟩)⟩⟩
end Go.Proofs.Ytnpiepimajippaa
namespace Go.Proofs.Ytnpiepimajippaa
open Go.RowKit St Pm
theorem sT14 : ElemT Try.prog 65 9 (.string ⟨#[]⟩) 1 16 := ElemT.mk Try.underlying65 (by kernel_rfl) (by simp [Value.cells])
set_option maxRecDepth 100000 in
set_option maxHeartbeats 2000000 in
theorem texts_14 (tr : Tr ByteArray) (w : World) (h : AtS w tr) (hz : sz tr ≤ 100000) (hk : ∀ p ∈ items tr, p.1.size ≤ 9223372036854775807) :
   Calls Try.prog 79 #[.agg #[.pointer (pa tr)]] w fun e w' =>
     ∃ v c, e = .returned (.tuple #[v, .int .i64 c]) ∧ Below w.heap.size w w' ∧ ((items tr).all goodP = true → c = 0 ∧ w'.ownsRow w.heap.size 9 1 v (items tr).length (txV ((items tr).map (·.2)))) ∧ ((items tr).all goodP = false → c = 2 ∧ v = .slice none 0 0) := by
 have b1 := below_new w (.cells #[.pointer (pa tr)] 27)
 have C := Lib.hid (own_b14 tr _ (h.below b1 rfl) hz hk)
 have B1 := Lib.hid b1
 have ST := Lib.hid sT14
 obtain ⟨g, hg⟩ : ∃ g, (items tr).all goodP = g := ⟨_, rfl⟩
 obtain ⟨l, hl⟩ : ∃ l, (items tr).map decV = l := ⟨_, rfl⟩
 have hl2 : (items tr).map (·.2) = l.map (·.2) := by rw [← hl, List.map_map]; rfl
 have hl3 : (items tr).length = l.length := by rw [← hl]; simp
 have hl4 : Hid (l.length ≤ 100000) := Lib.hid (by rw [← hl3, sz_items]; exact hz)
 obtain ⟨n, hn⟩ : ∃ n, l.length = n := ⟨_, rfl⟩
 rw [hg, hl, hl3, hn] at C
 rw [hg, hl2, hl3, hn]
 have HN := Lib.hid hn
 obtain ⟨z, hz0⟩ : ∃ z, w.heap.size = z := ⟨_, rfl⟩
 have HZ := Lib.hid hz0
 clear h hk b1 hg hl hl2 hl3 hn hz hz0
 go_enter Try.func79, Try.ntmps79
 go_wp2_with fail
 refine C.out.mono ?_
 rintro e w2 ⟨v, rfl, hb, h1, h2⟩
 have HB := Lib.hid (B1.out.trans (hb.mono B1.out.size))
 cases g
 case false =>
   obtain rfl := h2 rfl
   clear h1 h2 hb
   go_wp2_with fail
   go_ret2
   exact ⟨_, _, rfl, HB.out, rfl, rfl⟩
 case true =>
   have h3 := h1 rfl
   obtain ⟨a, cp, hv, _⟩ := own_slice h3
   subst hv
   have CE := Lib.hid (CellsAt.ownN h3)
   clear h1 h2 h3 hb
   go_wp2_with fail
   go_loopw [6, 18] (fun v i wr => ∃ k : Nat, k ≤ n ∧ i = .int .i64 (k : Int) ∧ Hid (wr.ownsRow w2.heap.size 9 1 v k (txV ((l.take k).map (·.2)))) ∧ Hid (Below w2.heap.size w2 wr)) (fun _ i _ => n - (intOf i).toNat)
   case atStart => exact ⟨0, Nat.zero_le _, rfl, Lib.hid ⟨rfl, Or.inl ⟨rfl, rfl⟩⟩, Lib.hid (Below.refl _ _)⟩
   case round =>
     obtain ⟨k, hk, rfl, HO, HW⟩ := hrel
     by_cases hlt : k < n
     · have hk1 : k < l.length := by have := HN.out; omega
       obtain ⟨so, co, hsv, _, _⟩ := own_slice HO.out
       have hki : (k : Int) < (n : Int) := by omega
       subst hsv
       obtain ⟨ba, oa, rfl, ca⟩ := els_get (CE.out.below HW.out rfl) k hk1
       have HT : Hid (txV ((l.take k).map (·.2)) ++ [.string l[k].2] = txV ((l.take (k + 1)).map (·.2))) := Lib.hid (by unfold txV; rw [List.take_succ_eq_append_getElem hk1, List.map_append, List.map_append]; rfl)
       generalize l[k] = x at *
       obtain ⟨p0, p1, p2, p3, p4, p5⟩ := ca
       have hkn : k ≤ 100000 := by have := hl4.out; omega
       go_upto_region 8 with (fail)
       have bA := below_new wr (.cells #[.int .i64 x.1.g, .int .i64 x.1.r, .string x.1.l, .int .i64 x.1.n, .int .i64 x.1.i, .string x.2] 47)
       have xA := heap_alloc_new wr (.cells #[.int .i64 x.1.g, .int .i64 x.1.r, .string x.1.l, .int .i64 x.1.n, .int .i64 x.1.i, .string x.2] 47)
       generalize wr.alloc (.cells #[.int .i64 x.1.g, .int .i64 x.1.r, .string x.1.l, .int .i64 x.1.n, .int .i64 x.1.i, .string x.2] 47) = w3 at *
       have q5 := cell_of_row _ _ 5 _ _ _ xA
       have O1 := Lib.hid (own_later HO.out bA (Nat.le_refl _))
       have W1 := Lib.hid (HW.out.trans (bA.mono HW.out.size))
       have HBS : Hid (w.heap.size ≤ w3.heap.size) := Lib.hid (Nat.le_trans HB.out.size (Nat.le_trans HW.out.size bA.size))
       have HWS : Hid (w2.heap.size ≤ w3.heap.size) := Lib.hid W1.out.size
       clear xA bA p0 p1 p2 p3 p4 p5
       go_wp2_with (at_builtin; go_must (refine wpList_app rfl _ _ 65 65 rfl w2.heap.size 9 _ 1 16 ST.out _ k _ rfl (O1.out.alloc _) _ 1 [.string x.2] rfl ((CellsAt.new w3 9 (0, 0) [.string x.2]).srcN rfl (by simp [Value.oneCell']) Try.underlying65 1 (by decide)) (by omega) (by omega) (by have := HWS.out; simp; omega) ?_); go_must (intro v6 w6 hown hgr hbel _))
       rw [HT.out] at hown
       exact ⟨⟨k + 1, by omega, by go_num, Lib.hid hown, Lib.hid ((W1.out.alloc HWS.out _).trans hbel)⟩, by simp [intOf]; omega⟩
     · obtain rfl : k = n := by omega
       go_wp2_with fail
       go_ret2
       rw [List.take_of_length_le (by rw [HN.out]; exact Nat.le_refl _)] at HO
       exact ⟨_, _, rfl, HB.out.trans (HW.out.mono HB.out.size), rfl, own_mono HO.out HB.out.size⟩
end Go.Proofs.Ytnpiepimajippaa
namespace Go.Proofs.Ytnpiepimajippaa
open Go.RowKit St Pm
theorem num_14 (x : Int) (w : World) : Calls Try.prog 27 #[.int .i64 x] w fun e w' => e = .returned (.int .i64 x) ∧ w = w' := by
 go_enter Try.func27, Try.ntmps27
 go_wp2
 go_ret
 exact ⟨rfl, rfl⟩
def labA : ByteArray := ⟨#[97]⟩
def atV (g : Int) (x : ByteArray) : Ev := (⟨g, 0, labA, 1, 0⟩, x)
set_option maxRecDepth 100000 in
theorem at_14 (g : Int) (x : ByteArray) (w : World) : Calls Try.prog 80 #[.int .i64 g, .string x] w fun e w' => e = .returned (.agg #[.int .i64 g, .int .i64 0, .string labA, .int .i64 1, .int .i64 0, .string x]) ∧ Below w.heap.size w w' := by
 have X1 := Lib.hid (heap_alloc_new w (.cells #[.int .i64 0, .int .i64 0, .string ⟨#[]⟩, .int .i64 0, .int .i64 0, .string ⟨#[]⟩] 47))
 go_enter Try.func80, Try.ntmps80
 go_wp2_with (refine wpList_store_row rfl 47 (.tmp 4) (.tmp 10) rfl w.heap.size #[.int .i64 g, .int .i64 0, .string labA, .int .i64 1, .int .i64 0, .string x] rfl rfl 47 _ X1.out (by kernel_rfl) rfl (by simp [Value.oneCell']) ?_)
 have Y := setRow_heap (w.alloc (.cells #[.int .i64 0, .int .i64 0, .string ⟨#[]⟩, .int .i64 0, .int .i64 0, .string ⟨#[]⟩] 47)) w.heap.size _ #[.int .i64 g, .int .i64 0, .string labA, .int .i64 1, .int .i64 0, .string x] _ _ X1.out
 have q0 := cell_of_row _ _ 0 _ _ _ Y
 have q1 := cell_of_row _ _ 1 _ _ _ Y
 have q2 := cell_of_row _ _ 2 _ _ _ Y
 have q3 := cell_of_row _ _ 3 _ _ _ Y
 have q4 := cell_of_row _ _ 4 _ _ _ Y
 have q5 := cell_of_row _ _ 5 _ _ _ Y
 refine bodyPost_ret (v := .agg #[.int .i64 g, .int .i64 0, .string labA, .int .i64 1, .int .i64 0, .string x]) (by simp [results, Try.results80, go_sem, q0, q1, q2, q3, q4, q5]) rfl ?_
 exact ⟨rfl, below_setRow (below_new _ _) (Nat.le_refl _) _⟩
theorem fld_st (g r n i : Int) (l x : ByteArray) (w : World) : (Instr.field 47 (.agg #[.int .i64 g, .int .i64 r, .string l, .int .i64 n, .int .i64 i, .string x]) 0).run Try.prog w = .ok (.agg #[.int .i64 g, .int .i64 r, .string l, .int .i64 n, .int .i64 i]) w := by
 kernel_rfl
end Go.Proofs.Ytnpiepimajippaa
namespace Go.Proofs.Ytnpiepimajippaa
open Go.RowKit
section
variable {P : Program} {t : TypeId} {ps rs : Array TypeId} {vd : Bool}
theorem eqIn_func (h : P.underlying t = some (.func ps rs vd)) (fn : Fn) (fi ca : Array Value) (w : World) (d : Nat) : (Op.equalIn (d + 1) t (.func fn fi ca) .nilFunc).run P w = .ok false w := by
 simp [Op.equalIn, run_underlying h]
theorem eql_func (h : P.underlying t = some (.func ps rs vd)) (fn : Fn) (fi ca : Array Value) (w : World) : (binOp .eql t (.func fn fi ca) .nilFunc).run P w = .ok (.bool false) w := by
 simp only [binOp]
 simp [Op.equal, Op.maxDepth, eqIn_func h fn fi ca w 9999]
end
end Go.Proofs.Ytnpiepimajippaa
namespace Go.Proofs.Ytnpiepimajippaa
open Go.RowKit St Pm
attribute [local go_sem] Oper.semAt_some
def GoI14 (s : Nat) (w : World) (lv : Value) (leave : Int) (pre : List Ev) (W : World) : Prop :=
 Boxed W s 22 lv ∧ Boxed W (s + 1) 3 (.int .i64 leave) ∧ Boxed W (s + 2) 4 (.bool false) ∧ Boxed W (s + 3) 3 (.int .i64 (pre.length : Int)) ∧ Below s w W
theorem goI_own14 (s : Nat) (w : World) (lv : Value) (leave : Int) (B : Nat) (hs : s ≤ w.heap.size) (hB : s ≤ B) : OwnFrom B (GoI14 s w lv leave) := by
 rintro pre A A' row ⟨h1, h2, h3, h4, h6⟩ hg hr
 have hr' : ∀ r, row = some r → ∃ o : Obj, A.heap[r]? = some o ∧ o.isCells = false := fun r e => (hr r e).2
 exact ⟨heap_kept hg hr' h1, heap_kept hg hr' h2, heap_kept hg hr' h3, heap_kept hg hr' h4, ownFrom_below (β := Unit) hs hB () A A' row h6 hg hr⟩
set_option maxRecDepth 100000 in
set_option maxHeartbeats 2000000 in
theorem goes_14 (gf : Nat) (lb : Array Value) (S : Nat → Prop) (L : List Ev) (a : Option Addr) (n c : Nat) (leave : Int) (w : World) (hl : CellsAt w a (elsV L)) (hn : n = L.length) (hb : n ≤ 1000000)
   (hS : ∀ k, S k → k < w.heap.size) (en : ∀ args w, (callFunc gf args).run Try.prog w = .ok (.enter gf args) w) (hI : ∀ W, Below w.heap.size w W → GoesOver 5 gf lb S L W) :
   Calls Try.prog 82 #[.func (.func gf) #[] lb, .slice a n c, .int .i64 leave] w fun e w' => e = .returned (.bool true) ∧ Below w.heap.size w w' := by
 have EQ := fun W => eql_func (P := Try.prog) (t := 78) Try.underlying78 (.func gf) #[] lb W
 refine (callsIn_wide (n := 6)).1 ?_
 refine callsIn_of_wp_marks Try.func82 rfl trivial ?_ rfl
 simp only [Try.ntmps82, List.size_toArray, List.length_cons, List.length_nil, Nat.reduceAdd, Nat.reduceSub, Array.replicate_succ, Array.replicate_zero, List.push_toArray, List.append_toArray, List.nil_append, List.cons_append]
 have HI := Lib.hid hI
 have HLL := Lib.hid hl
 have HSS := Lib.hid hS
 have HN := Lib.hid hn
 clear hI hl hS hn
 gi_wp2
 clear EQ
 obtain ⟨s, hs⟩ : ∃ s, s = w.heap.size := ⟨_, rfl⟩
 obtain ⟨W5, hW5⟩ : ∃ W5, allocs w [.cells #[.slice a n c] 22, .cells #[.int .i64 leave] 3, .cells #[.bool false] 4, .cells #[.int .i64 0] 3] = W5 := ⟨_, rfl⟩
 have hx5 : ∀ i ob, [Obj.cells #[.slice a n c] 22, .cells #[.int .i64 leave] 3, .cells #[.bool false] 4, .cells #[.int .i64 0] 3][i]? = some ob → W5.heap[s + i]? = some ob := fun i ob h => by have := allocs_get _ w i ob h; rw [hW5, ← hs] at this; exact this
 have hb5 : Below s w W5 := by rw [← hW5, hs]; exact allocs_below _ _
 have z5 : s + 4 ≤ W5.heap.size := by have := (Array.getElem?_eq_some_iff.1 (hx5 3 _ rfl)).1; omega
 have c1 : Boxed W5 s 22 (.slice a n c) := hx5 0 _ rfl
 have c2 : Boxed W5 (s + 1) 3 (.int .i64 leave) := hx5 1 _ rfl
 have c3 : Boxed W5 (s + 2) 4 (.bool false) := hx5 2 _ rfl
 have c4 : Boxed W5 (s + 3) 3 (.int .i64 0) := hx5 3 _ rfl
 rw [show (((w.alloc (.cells #[.slice a n c] 22)).alloc (.cells #[.int .i64 leave] 3)).alloc (.cells #[.bool false] 4)).alloc (.cells #[.int .i64 0] 3) = W5 from hW5, ← hs]
 have HS := Lib.hid hs
 have HIter := HI.out W5 (by rw [← hs]; exact hb5)
 have HSb : Hid (∀ k, S k → k < s) := Lib.hid (by rw [hs]; exact HSS.out)
 have HSd := HSb.out
 clear hW5 hx5 hs
 refine range_law2 (n := 6) rfl en HIter (by omega) KeepE.trans (fun W o o' _ _ => KeepE.put W _ o' (by omega) (fun k hk => by have := HSd k hk; omega)) (fun x => rfl) (fun pre => (by rintro _ _ _ _ h _ _; exact h)) ?_ (GoI14 s w (.slice a n c) leave) (fun c pre W => c = .ret ∧ Boxed W (s + 2) 4 (.bool true) ∧ Below s w W) (fun ys W' => ys = L ∧ GoI14 s w (.slice a n c) leave ys W') (goI_own14 _ _ _ _ _ (by have := HS.out; omega) (by omega)) ?_ ?_ ?_ ⟨c1, c2, c3, c4, hb5⟩
   (fun pre x a' W => GoI14 s w (.slice a n c) leave pre W ∧ pre ++ [x] <+: L ∧ ∃ bx, W5.heap.size ≤ bx ∧ W.heap[bx]? = some (.cells #[.int .i64 x.1.g, .int .i64 x.1.r, .string x.1.l, .int .i64 x.1.n, .int .i64 x.1.i] 41 (0, 0)) ∧ a' = { tmps := #[.func (.func gf) #[] lb, .slice a n c, .int .i64 leave, undef, .pointer (some ⟨s, 0, none⟩), .pointer (some ⟨s + 1, 0, none⟩), .pointer (some ⟨s + 1 + 1, 0, none⟩), .pointer (some ⟨s + 1 + 1 + 1, 0, none⟩), .pointer (some ⟨bx, 0, none⟩), .string x.2, .func (.func gf) #[] lb, .bool false, .func (.func gf) #[] lb, .agg #[.int .i64 x.1.g, .int .i64 x.1.r, .string x.1.l, .int .i64 x.1.n, .int .i64 x.1.i], .string x.2, undef, undef, undef, undef, undef, undef, undef, undef, undef, undef, undef, undef, undef, undef, undef, undef, undef, undef, undef, undef, undef, undef, undef, undef, undef, undef, undef, undef, undef, undef, undef], defers := [] }) ?_ ?assign ?body ?done ?stop
 · rintro W1 hW1 ys A B ⟨_, hbl⟩ k o hk ho _
   exact (hbl.block k (by omega)).trans ho
 · rintro c pre A A' row ⟨h1, h2, h3⟩ hg hr
   exact ⟨h1, heap_kept hg (fun r e => (hr r e).2) h2, ownFrom_below (β := Unit) (by have := HS.out; omega) (by omega) () A A' row h3 hg hr⟩
 · rintro ys A A' row ⟨h1, h2⟩ hg hr
   exact ⟨h1, goI_own14 _ _ _ _ _ (by have := HS.out; omega) (by omega) ys A A' row h2 hg hr⟩
 · rintro W1 hW1 ys A B ⟨h1, h2, h3, h4, h6⟩ ⟨hm, hbl⟩
   exact ⟨hm, (hbl.block _ (by omega)).trans h1, (hbl.block _ (by omega)).trans h2, (hbl.block _ (by omega)).trans h3, (hbl.block _ (by omega)).trans h4, h6.trans (hbl.mono (by omega))⟩
 · rintro x a' pre A A' row ⟨h1, h2, bx, h0, h3, h4⟩ hg hr
   exact ⟨goI_own14 _ _ _ _ _ (by have := HS.out; omega) (by omega) pre A A' row h1 hg hr, h2, bx, h0, heap_kept hg (fun r e => (hr r e).2) h3, h4⟩
 case assign =>
   rintro l1 pre x W1 K hi hx hsz hK
   have HI := Lib.hid hi
   clear hi
   simp only [encEls, List.zip_toArray, List.zip_cons_cons, List.zip_nil_right, List.foldl_toArray, List.foldl_cons, List.foldl_nil]
   gi_wp2
   refine hK _ _ ((KeepsOthers.alloc _ _).from _) (KeepE.below ((Below.refl _ W1).alloc (Nat.le_refl _) _) (fun k hk => by have := HSd k hk; omega)) (by simp; omega) ⟨(goI_own14 _ _ _ _ s (by have := HS.out; omega) (Nat.le_refl _)).alloc _ HI.out, hx, W1.heap.size, hsz, World.alloc_heap_new W1 _, rfl⟩
 case body =>
   rintro l1 pre x a' W1 ⟨hI, hX1, bx, hbz, hbx, rfl⟩ hsz
   have HI := Lib.hid hI
   have HBX := Lib.hid hbx
   have hpl : pre.length < L.length := by have := hX1.length_le; simp at this; omega
   have hx : L[pre.length] = x := by
     obtain ⟨q, hq⟩ := hX1
     have h1 : L[pre.length]? = some x := by rw [← hq]; simp
     rw [List.getElem?_eq_getElem hpl] at h1
     exact Option.some.inj h1
   obtain ⟨ba, oa, rfl, ca⟩ := els_get (HLL.out.below hI.2.2.2.2 HS.out) pre.length hpl
   rw [hx] at ca
   have CA := Lib.hid ca
   have hpn : pre.length < n := by rw [HN.out]; exact hpl
   have EN : ∀ W, (binOp .neq 41 (.agg #[.int .i64 x.1.g, .int .i64 x.1.r, .string x.1.l, .int .i64 x.1.n, .int .i64 x.1.i]) (.agg #[.int .i64 x.1.g, .int .i64 x.1.r, .string x.1.l, .int .i64 x.1.n, .int .i64 x.1.i])).run Try.prog W = .ok (.bool false) W := fun W => by rw [sv_neq x.1 x.1 W]; simp
   have HEN := Lib.hid EN
   clear hI hbx ca hx hpl EN HIter c1 c2 c3 c4
   have hpi : (pre.length : Int) < (n : Int) := by omega
   have hnle : ¬ n ≤ pre.length := by omega
   have hdle : decide (n ≤ pre.length) = false := by simp; omega
   have HC : Hid (Chain [W1] W1) := Lib.hid (Chain.one W1)
   gi_wp2
   refine wpIn_region_round (S := fun w' => Below W1.heap.size W1 w') (by kernel_rfl) (by kernel_rfl) (Below.refl _ _).drew (fun hS => ?_)
   refine wpAnyH_take (i := 0) (oi := ⟨some 15, _, _, _, _, _⟩) (v := ?_) rfl (by kernel_rfl) (by kernel_rfl) (by kernel_rfl) (fun _ _ _ h => h) (Or.inl ⟨by rfl, ?_⟩) hS ?_
   rotate_left 1
   · intro w' hB; have hd := (HC.out.to W1 (by simp)).trans (hB.mono (HC.out.to W1 (by simp)).size); have x0 := cell_of_row _ _ 0 _ _ _ (boxStays HBX.out hd); have x1 := cell_of_row _ _ 1 _ _ _ (boxStays HBX.out hd); have x2 := cell_of_row _ _ 2 _ _ _ (boxStays HBX.out hd); have x3 := cell_of_row _ _ 3 _ _ _ (boxStays HBX.out hd); have x4 := cell_of_row _ _ 4 _ _ _ (boxStays HBX.out hd); have e0 := cell_of_one (boxStays HI.out.1 hd); have e3 := cell_of_one (boxStays HI.out.2.2.2.1 hd); obtain ⟨q0, q1, q2, q3, q4, q5⟩ := CA.out.below hd; have EN := HEN.out; clear hd; (go_simp <;> with_reducible rfl)
   try simp only [Act.put, List.setIfInBounds_toArray, List.set_cons_zero, List.set_cons_succ]
   refine wpAnyH_take (i := 1) (oi := ⟨some 16, _, _, _, _, _⟩) (v := ?_) rfl (by kernel_rfl) (by kernel_rfl) (by kernel_rfl) (fun _ _ _ h => h) (Or.inl ⟨by rfl, ?_⟩) hS ?_
   rotate_left 1
   · intro w' hB; have hd := (HC.out.to W1 (by simp)).trans (hB.mono (HC.out.to W1 (by simp)).size); have x0 := cell_of_row _ _ 0 _ _ _ (boxStays HBX.out hd); have x1 := cell_of_row _ _ 1 _ _ _ (boxStays HBX.out hd); have x2 := cell_of_row _ _ 2 _ _ _ (boxStays HBX.out hd); have x3 := cell_of_row _ _ 3 _ _ _ (boxStays HBX.out hd); have x4 := cell_of_row _ _ 4 _ _ _ (boxStays HBX.out hd); have e0 := cell_of_one (boxStays HI.out.1 hd); have e3 := cell_of_one (boxStays HI.out.2.2.2.1 hd); obtain ⟨q0, q1, q2, q3, q4, q5⟩ := CA.out.below hd; have EN := HEN.out; clear hd; (go_simp <;> with_reducible rfl)
   try simp only [Act.put, List.setIfInBounds_toArray, List.set_cons_zero, List.set_cons_succ]
   refine wpAnyH_take (i := 2) (oi := ⟨some 17, _, _, _, _, _⟩) (v := ?_) rfl (by kernel_rfl) (by kernel_rfl) (by kernel_rfl) (fun _ _ _ h => h) (Or.inl ⟨by rfl, ?_⟩) hS ?_
   rotate_left 1
   · intro w' hB; have hd := (HC.out.to W1 (by simp)).trans (hB.mono (HC.out.to W1 (by simp)).size); have x0 := cell_of_row _ _ 0 _ _ _ (boxStays HBX.out hd); have x1 := cell_of_row _ _ 1 _ _ _ (boxStays HBX.out hd); have x2 := cell_of_row _ _ 2 _ _ _ (boxStays HBX.out hd); have x3 := cell_of_row _ _ 3 _ _ _ (boxStays HBX.out hd); have x4 := cell_of_row _ _ 4 _ _ _ (boxStays HBX.out hd); have e0 := cell_of_one (boxStays HI.out.1 hd); have e3 := cell_of_one (boxStays HI.out.2.2.2.1 hd); obtain ⟨q0, q1, q2, q3, q4, q5⟩ := CA.out.below hd; have EN := HEN.out; clear hd; (go_simp <;> with_reducible rfl)
   try simp only [Act.put, List.setIfInBounds_toArray, List.set_cons_zero, List.set_cons_succ]
   refine wpAnyH_take (i := 3) (oi := ⟨some 18, _, _, _, _, _⟩) (v := ?_) rfl (by kernel_rfl) (by kernel_rfl) (by kernel_rfl) (fun _ _ _ h => h) (Or.inl ⟨by rfl, ?_⟩) hS ?_
   rotate_left 1
   · intro w' hB; have hd := (HC.out.to W1 (by simp)).trans (hB.mono (HC.out.to W1 (by simp)).size); have x0 := cell_of_row _ _ 0 _ _ _ (boxStays HBX.out hd); have x1 := cell_of_row _ _ 1 _ _ _ (boxStays HBX.out hd); have x2 := cell_of_row _ _ 2 _ _ _ (boxStays HBX.out hd); have x3 := cell_of_row _ _ 3 _ _ _ (boxStays HBX.out hd); have x4 := cell_of_row _ _ 4 _ _ _ (boxStays HBX.out hd); have e0 := cell_of_one (boxStays HI.out.1 hd); have e3 := cell_of_one (boxStays HI.out.2.2.2.1 hd); obtain ⟨q0, q1, q2, q3, q4, q5⟩ := CA.out.below hd; have EN := HEN.out; clear hd; (go_simp <;> with_reducible rfl)
   try simp only [Act.put, List.setIfInBounds_toArray, List.set_cons_zero, List.set_cons_succ]
   refine wpAnyH_take (i := 4) (oi := ⟨some 19, _, _, _, _, _⟩) (v := ?_) rfl (by kernel_rfl) (by kernel_rfl) (by kernel_rfl) (fun _ _ _ h => h) (Or.inl ⟨by rfl, ?_⟩) hS ?_
   rotate_left 1
   · intro w' hB; have hd := (HC.out.to W1 (by simp)).trans (hB.mono (HC.out.to W1 (by simp)).size); have x0 := cell_of_row _ _ 0 _ _ _ (boxStays HBX.out hd); have x1 := cell_of_row _ _ 1 _ _ _ (boxStays HBX.out hd); have x2 := cell_of_row _ _ 2 _ _ _ (boxStays HBX.out hd); have x3 := cell_of_row _ _ 3 _ _ _ (boxStays HBX.out hd); have x4 := cell_of_row _ _ 4 _ _ _ (boxStays HBX.out hd); have e0 := cell_of_one (boxStays HI.out.1 hd); have e3 := cell_of_one (boxStays HI.out.2.2.2.1 hd); obtain ⟨q0, q1, q2, q3, q4, q5⟩ := CA.out.below hd; have EN := HEN.out; clear hd; (go_simp <;> with_reducible rfl)
   try simp only [Act.put, List.setIfInBounds_toArray, List.set_cons_zero, List.set_cons_succ]
   refine wpAnyH_take (i := 5) (oi := ⟨some 20, _, _, _, _, _⟩) (v := ?_) rfl (by kernel_rfl) (by kernel_rfl) (by kernel_rfl) (fun _ _ _ h => h) (Or.inl ⟨by rfl, ?_⟩) hS ?_
   rotate_left 1
   · intro w' hB; have hd := (HC.out.to W1 (by simp)).trans (hB.mono (HC.out.to W1 (by simp)).size); have x0 := cell_of_row _ _ 0 _ _ _ (boxStays HBX.out hd); have x1 := cell_of_row _ _ 1 _ _ _ (boxStays HBX.out hd); have x2 := cell_of_row _ _ 2 _ _ _ (boxStays HBX.out hd); have x3 := cell_of_row _ _ 3 _ _ _ (boxStays HBX.out hd); have x4 := cell_of_row _ _ 4 _ _ _ (boxStays HBX.out hd); have e0 := cell_of_one (boxStays HI.out.1 hd); have e3 := cell_of_one (boxStays HI.out.2.2.2.1 hd); obtain ⟨q0, q1, q2, q3, q4, q5⟩ := CA.out.below hd; have EN := HEN.out; clear hd; (go_simp <;> with_reducible rfl)
   try simp only [Act.put, List.setIfInBounds_toArray, List.set_cons_zero, List.set_cons_succ]
   refine wpAnyH_take (i := 6) (oi := ⟨some 21, _, _, _, _, _⟩) (v := ?_) rfl (by kernel_rfl) (by kernel_rfl) (by kernel_rfl) (fun _ _ _ h => h) (Or.inl ⟨by rfl, ?_⟩) hS ?_
   rotate_left 1
   · intro w' hB; have hd := (HC.out.to W1 (by simp)).trans (hB.mono (HC.out.to W1 (by simp)).size); have x0 := cell_of_row _ _ 0 _ _ _ (boxStays HBX.out hd); have x1 := cell_of_row _ _ 1 _ _ _ (boxStays HBX.out hd); have x2 := cell_of_row _ _ 2 _ _ _ (boxStays HBX.out hd); have x3 := cell_of_row _ _ 3 _ _ _ (boxStays HBX.out hd); have x4 := cell_of_row _ _ 4 _ _ _ (boxStays HBX.out hd); have e0 := cell_of_one (boxStays HI.out.1 hd); have e3 := cell_of_one (boxStays HI.out.2.2.2.1 hd); obtain ⟨q0, q1, q2, q3, q4, q5⟩ := CA.out.below hd; have EN := HEN.out; clear hd; (go_simp <;> with_reducible rfl)
   try simp only [Act.put, List.setIfInBounds_toArray, List.set_cons_zero, List.set_cons_succ]
   refine wpAnyH_take (i := 7) (oi := ⟨some 22, _, _, _, _, _⟩) (v := ?_) rfl (by kernel_rfl) (by kernel_rfl) (by kernel_rfl) (fun _ _ _ h => h) (Or.inl ⟨by rfl, ?_⟩) hS ?_
   rotate_left 1
   · intro w' hB; have hd := (HC.out.to W1 (by simp)).trans (hB.mono (HC.out.to W1 (by simp)).size); have x0 := cell_of_row _ _ 0 _ _ _ (boxStays HBX.out hd); have x1 := cell_of_row _ _ 1 _ _ _ (boxStays HBX.out hd); have x2 := cell_of_row _ _ 2 _ _ _ (boxStays HBX.out hd); have x3 := cell_of_row _ _ 3 _ _ _ (boxStays HBX.out hd); have x4 := cell_of_row _ _ 4 _ _ _ (boxStays HBX.out hd); have e0 := cell_of_one (boxStays HI.out.1 hd); have e3 := cell_of_one (boxStays HI.out.2.2.2.1 hd); obtain ⟨q0, q1, q2, q3, q4, q5⟩ := CA.out.below hd; have EN := HEN.out; clear hd; (go_simp <;> with_reducible rfl)
   try simp only [Act.put, List.setIfInBounds_toArray, List.set_cons_zero, List.set_cons_succ]
   refine wpAnyH_take (i := 8) (oi := ⟨some 23, _, _, _, _, _⟩) (v := ?_) rfl (by kernel_rfl) (by kernel_rfl) (by kernel_rfl) (fun _ _ _ h => h) (Or.inl ⟨by rfl, ?_⟩) hS ?_
   rotate_left 1
   · intro w' hB; have hd := (HC.out.to W1 (by simp)).trans (hB.mono (HC.out.to W1 (by simp)).size); have x0 := cell_of_row _ _ 0 _ _ _ (boxStays HBX.out hd); have x1 := cell_of_row _ _ 1 _ _ _ (boxStays HBX.out hd); have x2 := cell_of_row _ _ 2 _ _ _ (boxStays HBX.out hd); have x3 := cell_of_row _ _ 3 _ _ _ (boxStays HBX.out hd); have x4 := cell_of_row _ _ 4 _ _ _ (boxStays HBX.out hd); have e0 := cell_of_one (boxStays HI.out.1 hd); have e3 := cell_of_one (boxStays HI.out.2.2.2.1 hd); obtain ⟨q0, q1, q2, q3, q4, q5⟩ := CA.out.below hd; have EN := HEN.out; clear hd; (go_simp <;> with_reducible rfl)
   try simp only [Act.put, List.setIfInBounds_toArray, List.set_cons_zero, List.set_cons_succ]
   refine wpAnyH_take (i := 9) (oi := ⟨some 24, _, _, _, _, _⟩) (v := ?_) rfl (by kernel_rfl) (by kernel_rfl) (by kernel_rfl) (fun _ _ _ h => h) (Or.inl ⟨by rfl, ?_⟩) hS ?_
   rotate_left 1
   · intro w' hB; have hd := (HC.out.to W1 (by simp)).trans (hB.mono (HC.out.to W1 (by simp)).size); have x0 := cell_of_row _ _ 0 _ _ _ (boxStays HBX.out hd); have x1 := cell_of_row _ _ 1 _ _ _ (boxStays HBX.out hd); have x2 := cell_of_row _ _ 2 _ _ _ (boxStays HBX.out hd); have x3 := cell_of_row _ _ 3 _ _ _ (boxStays HBX.out hd); have x4 := cell_of_row _ _ 4 _ _ _ (boxStays HBX.out hd); have e0 := cell_of_one (boxStays HI.out.1 hd); have e3 := cell_of_one (boxStays HI.out.2.2.2.1 hd); obtain ⟨q0, q1, q2, q3, q4, q5⟩ := CA.out.below hd; have EN := HEN.out; clear hd; (go_simp <;> with_reducible rfl)
   try simp only [Act.put, List.setIfInBounds_toArray, List.set_cons_zero, List.set_cons_succ]
   refine wpAnyH_take (i := 10) (oi := ⟨some 25, _, _, _, _, _⟩) (v := ?_) rfl (by kernel_rfl) (by kernel_rfl) (by kernel_rfl) (fun _ _ _ h => h) (Or.inl ⟨by rfl, ?_⟩) hS ?_
   rotate_left 1
   · intro w' hB; have hd := (HC.out.to W1 (by simp)).trans (hB.mono (HC.out.to W1 (by simp)).size); have x0 := cell_of_row _ _ 0 _ _ _ (boxStays HBX.out hd); have x1 := cell_of_row _ _ 1 _ _ _ (boxStays HBX.out hd); have x2 := cell_of_row _ _ 2 _ _ _ (boxStays HBX.out hd); have x3 := cell_of_row _ _ 3 _ _ _ (boxStays HBX.out hd); have x4 := cell_of_row _ _ 4 _ _ _ (boxStays HBX.out hd); have e0 := cell_of_one (boxStays HI.out.1 hd); have e3 := cell_of_one (boxStays HI.out.2.2.2.1 hd); obtain ⟨q0, q1, q2, q3, q4, q5⟩ := CA.out.below hd; have EN := HEN.out; clear hd; (go_simp <;> with_reducible rfl)
   try simp only [Act.put, List.setIfInBounds_toArray, List.set_cons_zero, List.set_cons_succ]
   refine wpAnyH_take (i := 11) (oi := ⟨some 26, _, _, _, _, _⟩) (v := ?_) rfl (by kernel_rfl) (by kernel_rfl) (by kernel_rfl) (fun _ _ _ h => h) (Or.inl ⟨by rfl, ?_⟩) hS ?_
   rotate_left 1
   · intro w' hB; have hd := (HC.out.to W1 (by simp)).trans (hB.mono (HC.out.to W1 (by simp)).size); have x0 := cell_of_row _ _ 0 _ _ _ (boxStays HBX.out hd); have x1 := cell_of_row _ _ 1 _ _ _ (boxStays HBX.out hd); have x2 := cell_of_row _ _ 2 _ _ _ (boxStays HBX.out hd); have x3 := cell_of_row _ _ 3 _ _ _ (boxStays HBX.out hd); have x4 := cell_of_row _ _ 4 _ _ _ (boxStays HBX.out hd); have e0 := cell_of_one (boxStays HI.out.1 hd); have e3 := cell_of_one (boxStays HI.out.2.2.2.1 hd); obtain ⟨q0, q1, q2, q3, q4, q5⟩ := CA.out.below hd; have EN := HEN.out; clear hd; (go_simp <;> with_reducible rfl)
   try simp only [Act.put, List.setIfInBounds_toArray, List.set_cons_zero, List.set_cons_succ]
   refine wpAnyH_take (i := 12) (oi := ⟨some 27, _, _, _, _, _⟩) (v := ?_) rfl (by kernel_rfl) (by kernel_rfl) (by kernel_rfl) (fun _ _ _ h => h) (Or.inl ⟨by rfl, ?_⟩) hS ?_
   rotate_left 1
   · intro w' hB; have hd := (HC.out.to W1 (by simp)).trans (hB.mono (HC.out.to W1 (by simp)).size); have x0 := cell_of_row _ _ 0 _ _ _ (boxStays HBX.out hd); have x1 := cell_of_row _ _ 1 _ _ _ (boxStays HBX.out hd); have x2 := cell_of_row _ _ 2 _ _ _ (boxStays HBX.out hd); have x3 := cell_of_row _ _ 3 _ _ _ (boxStays HBX.out hd); have x4 := cell_of_row _ _ 4 _ _ _ (boxStays HBX.out hd); have e0 := cell_of_one (boxStays HI.out.1 hd); have e3 := cell_of_one (boxStays HI.out.2.2.2.1 hd); obtain ⟨q0, q1, q2, q3, q4, q5⟩ := CA.out.below hd; have EN := HEN.out; clear hd; (go_simp <;> with_reducible rfl)
   try simp only [Act.put, List.setIfInBounds_toArray, List.set_cons_zero, List.set_cons_succ]
   refine wpAnyH_take (i := 13) (oi := ⟨some 28, _, _, _, _, _⟩) (v := ?_) rfl (by kernel_rfl) (by kernel_rfl) (by kernel_rfl) (fun _ _ _ h => h) (Or.inl ⟨by rfl, ?_⟩) hS ?_
   rotate_left 1
   · intro w' hB; have hd := (HC.out.to W1 (by simp)).trans (hB.mono (HC.out.to W1 (by simp)).size); have x0 := cell_of_row _ _ 0 _ _ _ (boxStays HBX.out hd); have x1 := cell_of_row _ _ 1 _ _ _ (boxStays HBX.out hd); have x2 := cell_of_row _ _ 2 _ _ _ (boxStays HBX.out hd); have x3 := cell_of_row _ _ 3 _ _ _ (boxStays HBX.out hd); have x4 := cell_of_row _ _ 4 _ _ _ (boxStays HBX.out hd); have e0 := cell_of_one (boxStays HI.out.1 hd); have e3 := cell_of_one (boxStays HI.out.2.2.2.1 hd); obtain ⟨q0, q1, q2, q3, q4, q5⟩ := CA.out.below hd; have EN := HEN.out; clear hd; (go_simp <;> with_reducible rfl)
   try simp only [Act.put, List.setIfInBounds_toArray, List.set_cons_zero, List.set_cons_succ]
   refine wpAnyH_take (i := 14) (oi := ⟨some 29, _, _, _, _, _⟩) (v := ?_) rfl (by kernel_rfl) (by kernel_rfl) (by kernel_rfl) (fun _ _ _ h => h) (Or.inl ⟨by rfl, ?_⟩) hS ?_
   rotate_left 1
   · intro w' hB; have hd := (HC.out.to W1 (by simp)).trans (hB.mono (HC.out.to W1 (by simp)).size); have x0 := cell_of_row _ _ 0 _ _ _ (boxStays HBX.out hd); have x1 := cell_of_row _ _ 1 _ _ _ (boxStays HBX.out hd); have x2 := cell_of_row _ _ 2 _ _ _ (boxStays HBX.out hd); have x3 := cell_of_row _ _ 3 _ _ _ (boxStays HBX.out hd); have x4 := cell_of_row _ _ 4 _ _ _ (boxStays HBX.out hd); have e0 := cell_of_one (boxStays HI.out.1 hd); have e3 := cell_of_one (boxStays HI.out.2.2.2.1 hd); obtain ⟨q0, q1, q2, q3, q4, q5⟩ := CA.out.below hd; have EN := HEN.out; clear hd; (go_simp <;> with_reducible rfl)
   try simp only [Act.put, List.setIfInBounds_toArray, List.set_cons_zero, List.set_cons_succ]
   refine wpAnyH_take (i := 15) (oi := ⟨some 30, _, _, _, _, _⟩) (v := ?_) rfl (by kernel_rfl) (by kernel_rfl) (by kernel_rfl) (fun _ _ _ h => h) (Or.inl ⟨by rfl, ?_⟩) hS ?_
   rotate_left 1
   · intro w' hB; have hd := (HC.out.to W1 (by simp)).trans (hB.mono (HC.out.to W1 (by simp)).size); have x0 := cell_of_row _ _ 0 _ _ _ (boxStays HBX.out hd); have x1 := cell_of_row _ _ 1 _ _ _ (boxStays HBX.out hd); have x2 := cell_of_row _ _ 2 _ _ _ (boxStays HBX.out hd); have x3 := cell_of_row _ _ 3 _ _ _ (boxStays HBX.out hd); have x4 := cell_of_row _ _ 4 _ _ _ (boxStays HBX.out hd); have e0 := cell_of_one (boxStays HI.out.1 hd); have e3 := cell_of_one (boxStays HI.out.2.2.2.1 hd); obtain ⟨q0, q1, q2, q3, q4, q5⟩ := CA.out.below hd; have EN := HEN.out; clear hd; (go_simp <;> with_reducible rfl)
   try simp only [Act.put, List.setIfInBounds_toArray, List.set_cons_zero, List.set_cons_succ]
   refine wpAnyH_take (i := 16) (oi := ⟨some 31, _, _, _, _, _⟩) (v := ?_) rfl (by kernel_rfl) (by kernel_rfl) (by kernel_rfl) (fun _ _ _ h => h) (Or.inl ⟨by rfl, ?_⟩) hS ?_
   rotate_left 1
   · intro w' hB; have hd := (HC.out.to W1 (by simp)).trans (hB.mono (HC.out.to W1 (by simp)).size); have x0 := cell_of_row _ _ 0 _ _ _ (boxStays HBX.out hd); have x1 := cell_of_row _ _ 1 _ _ _ (boxStays HBX.out hd); have x2 := cell_of_row _ _ 2 _ _ _ (boxStays HBX.out hd); have x3 := cell_of_row _ _ 3 _ _ _ (boxStays HBX.out hd); have x4 := cell_of_row _ _ 4 _ _ _ (boxStays HBX.out hd); have e0 := cell_of_one (boxStays HI.out.1 hd); have e3 := cell_of_one (boxStays HI.out.2.2.2.1 hd); obtain ⟨q0, q1, q2, q3, q4, q5⟩ := CA.out.below hd; have EN := HEN.out; clear hd; (go_simp <;> with_reducible rfl)
   try simp only [Act.put, List.setIfInBounds_toArray, List.set_cons_zero, List.set_cons_succ]
   refine wpAnyH_take (i := 17) (oi := ⟨some 32, _, _, _, _, _⟩) (v := ?_) rfl (by kernel_rfl) (by kernel_rfl) (by kernel_rfl) (fun _ _ _ h => h) (Or.inl ⟨by rfl, ?_⟩) hS ?_
   rotate_left 1
   · intro w' hB; have hd := (HC.out.to W1 (by simp)).trans (hB.mono (HC.out.to W1 (by simp)).size); have x0 := cell_of_row _ _ 0 _ _ _ (boxStays HBX.out hd); have x1 := cell_of_row _ _ 1 _ _ _ (boxStays HBX.out hd); have x2 := cell_of_row _ _ 2 _ _ _ (boxStays HBX.out hd); have x3 := cell_of_row _ _ 3 _ _ _ (boxStays HBX.out hd); have x4 := cell_of_row _ _ 4 _ _ _ (boxStays HBX.out hd); have e0 := cell_of_one (boxStays HI.out.1 hd); have e3 := cell_of_one (boxStays HI.out.2.2.2.1 hd); obtain ⟨q0, q1, q2, q3, q4, q5⟩ := CA.out.below hd; have EN := HEN.out; clear hd; (go_simp <;> with_reducible rfl)
   try simp only [Act.put, List.setIfInBounds_toArray, List.set_cons_zero, List.set_cons_succ]
   refine wpAnyH_take (i := 18) (oi := ⟨some 33, _, _, _, _, _⟩) (v := ?_) rfl (by kernel_rfl) (by kernel_rfl) (by kernel_rfl) (fun _ _ _ h => h) (Or.inl ⟨by rfl, ?_⟩) hS ?_
   rotate_left 1
   · intro w' hB; have hd := (HC.out.to W1 (by simp)).trans (hB.mono (HC.out.to W1 (by simp)).size); have x0 := cell_of_row _ _ 0 _ _ _ (boxStays HBX.out hd); have x1 := cell_of_row _ _ 1 _ _ _ (boxStays HBX.out hd); have x2 := cell_of_row _ _ 2 _ _ _ (boxStays HBX.out hd); have x3 := cell_of_row _ _ 3 _ _ _ (boxStays HBX.out hd); have x4 := cell_of_row _ _ 4 _ _ _ (boxStays HBX.out hd); have e0 := cell_of_one (boxStays HI.out.1 hd); have e3 := cell_of_one (boxStays HI.out.2.2.2.1 hd); obtain ⟨q0, q1, q2, q3, q4, q5⟩ := CA.out.below hd; have EN := HEN.out; clear hd; (go_simp <;> with_reducible rfl)
   try simp only [Act.put, List.setIfInBounds_toArray, List.set_cons_zero, List.set_cons_succ]
   refine wpAnyH_take (i := 19) (oi := ⟨some 34, _, _, _, _, _⟩) (v := ?_) rfl (by kernel_rfl) (by kernel_rfl) (by kernel_rfl) (fun _ _ _ h => h) (Or.inl ⟨by rfl, ?_⟩) hS ?_
   rotate_left 1
   · intro w' hB; have hd := (HC.out.to W1 (by simp)).trans (hB.mono (HC.out.to W1 (by simp)).size); have x0 := cell_of_row _ _ 0 _ _ _ (boxStays HBX.out hd); have x1 := cell_of_row _ _ 1 _ _ _ (boxStays HBX.out hd); have x2 := cell_of_row _ _ 2 _ _ _ (boxStays HBX.out hd); have x3 := cell_of_row _ _ 3 _ _ _ (boxStays HBX.out hd); have x4 := cell_of_row _ _ 4 _ _ _ (boxStays HBX.out hd); have e0 := cell_of_one (boxStays HI.out.1 hd); have e3 := cell_of_one (boxStays HI.out.2.2.2.1 hd); obtain ⟨q0, q1, q2, q3, q4, q5⟩ := CA.out.below hd; have EN := HEN.out; clear hd; (go_simp <;> with_reducible rfl)
   try simp only [Act.put, List.setIfInBounds_toArray, List.set_cons_zero, List.set_cons_succ]
   refine wpAnyH_take (i := 20) (oi := ⟨some 35, _, _, _, _, _⟩) (v := ?_) rfl (by kernel_rfl) (by kernel_rfl) (by kernel_rfl) (fun _ _ _ h => h) (Or.inl ⟨by rfl, ?_⟩) hS ?_
   rotate_left 1
   · intro w' hB; have hd := (HC.out.to W1 (by simp)).trans (hB.mono (HC.out.to W1 (by simp)).size); have x0 := cell_of_row _ _ 0 _ _ _ (boxStays HBX.out hd); have x1 := cell_of_row _ _ 1 _ _ _ (boxStays HBX.out hd); have x2 := cell_of_row _ _ 2 _ _ _ (boxStays HBX.out hd); have x3 := cell_of_row _ _ 3 _ _ _ (boxStays HBX.out hd); have x4 := cell_of_row _ _ 4 _ _ _ (boxStays HBX.out hd); have e0 := cell_of_one (boxStays HI.out.1 hd); have e3 := cell_of_one (boxStays HI.out.2.2.2.1 hd); obtain ⟨q0, q1, q2, q3, q4, q5⟩ := CA.out.below hd; have EN := HEN.out; clear hd; (go_simp <;> with_reducible rfl)
   try simp only [Act.put, List.setIfInBounds_toArray, List.set_cons_zero, List.set_cons_succ]
   refine wpAnyH_take (i := 21) (oi := ⟨some 36, _, _, _, _, _⟩) (v := ?_) rfl (by kernel_rfl) (by kernel_rfl) (by kernel_rfl) (fun _ _ _ h => h) (Or.inl ⟨by rfl, ?_⟩) hS ?_
   rotate_left 1
   · intro w' hB; have hd := (HC.out.to W1 (by simp)).trans (hB.mono (HC.out.to W1 (by simp)).size); have x0 := cell_of_row _ _ 0 _ _ _ (boxStays HBX.out hd); have x1 := cell_of_row _ _ 1 _ _ _ (boxStays HBX.out hd); have x2 := cell_of_row _ _ 2 _ _ _ (boxStays HBX.out hd); have x3 := cell_of_row _ _ 3 _ _ _ (boxStays HBX.out hd); have x4 := cell_of_row _ _ 4 _ _ _ (boxStays HBX.out hd); have e0 := cell_of_one (boxStays HI.out.1 hd); have e3 := cell_of_one (boxStays HI.out.2.2.2.1 hd); obtain ⟨q0, q1, q2, q3, q4, q5⟩ := CA.out.below hd; have EN := HEN.out; clear hd; (go_simp <;> with_reducible rfl)
   try simp only [Act.put, List.setIfInBounds_toArray, List.set_cons_zero, List.set_cons_succ]
   refine wpAnyH_done (by kernel_rfl) (OnlyN.normal ?_) _
   generalize W1.drew = w6 at *
   have H16 := Lib.hid hS
   have hpw : IntKind.i64.wrap ((pre.length : Int) + 1) = (pre.length : Int) + 1 := wr64 (by omega) (by omega)
   have J1 := Lib.hid (boxStays HI.out.1 H16.out)
   have J2 := Lib.hid (boxStays HI.out.2.1 H16.out)
   have J3 := Lib.hid (boxStays HI.out.2.2.1 H16.out)
   have J4 := Lib.hid (boxStays HI.out.2.2.2.1 H16.out)
   have KT : Hid (KeepE (W5.heap.size + 2) S (fun _ => False) W1 w6) := Lib.hid (KeepE.below H16.out (fun k hk => by have := HSd k hk; omega))
   have KF : Hid (KeepsFrom W5.heap.size W1 w6) := Lib.hid (keepsFrom_below H16.out _)
   have hBw : Hid (Below s w w6) := Lib.hid (HI.out.2.2.2.2.trans (H16.out.mono (by omega)))
   have NS3 : Hid (¬ S (s + 1 + 1 + 1)) := Lib.hid (fun h => by have := HSd _ h; omega)
   have NS2 : Hid (¬ S (s + 1 + 1)) := Lib.hid (fun h => by have := HSd _ h; omega)
   clear HC hS
   have e2 := cell_of_one J2.out
   have e3 := cell_of_one J3.out
   have f3 := frozen_of_row _ (s + 1 + 1) 0 _ _ J3.out
   have e4 := cell_of_one J4.out
   have f4 := frozen_of_row _ (s + 1 + 1 + 1) 0 _ _ J4.out
   by_cases hlv : (pre.length : Int) + 1 = leave
   · have hlb : ((pre.length : Int) + 1 == leave) = true := by simpa using hlv
     gi_wp2
     exact ⟨(KF.out.trans ((KeepsOthers.setCell _ _ _).from _)).trans ((KeepsOthers.setCell _ _ _).from _),
       (KT.out.trans (KeepE.setCell _ _ _ _ (by omega) NS3.out)).trans (KeepE.setCell _ _ _ _ (by omega) NS2.out), rfl,
       (Boxed.other (t := 4) (B := s + 1 + 1) (B' := s + 1 + 1 + 1) J3.out (by omega) _).set _, (hBw.out.setCell (p := ⟨s + 1 + 1 + 1, 0, none⟩) (show s ≤ s + 1 + 1 + 1 by omega) _).setCell (p := ⟨s + 1 + 1, 0, none⟩) (show s ≤ s + 1 + 1 by omega) _⟩
   · have hlb : ((pre.length : Int) + 1 == leave) = false := by simpa using hlv
     gi_wp2
     refine ⟨KF.out.trans ((KeepsOthers.setCell _ _ _).from _), KT.out.trans (KeepE.setCell _ _ _ _ (by omega) NS3.out), Boxed.other (t := 22) J1.out (by omega) _, Boxed.other (t := 3) J2.out (by omega) _, Boxed.other (t := 4) J3.out (by omega) _, ?_, hBw.out.setCell (p := ⟨s + 1 + 1 + 1, 0, none⟩) (show s ≤ s + 1 + 1 + 1 by omega) _⟩
     have h1 := Boxed.set (t := 3) (.int .i64 ((pre.length : Int) + 1)) J4.out
     simpa using h1
 case done =>
   rintro D ys W1 hD ⟨rfl, hI⟩ hK
   have e1 := cell_of_one hI.1
   have e4 := cell_of_one hI.2.2.2.1
   have e3 := cell_of_one hI.2.2.1
   have f3 := frozen_of_row _ (s + 2) 0 _ _ hI.2.2.1
   have hnl : (ys.length : Int) = (n : Int) := by have := HN.out; omega
   rw [hnl] at e4
   have HI := Lib.hid hI
   have HK := Lib.hid hK
   clear hI hK hnl HIter c1 c2 c3 c4
   simp only [Exit.inBlock]
   gi_wp2
   have hK2 : (W1.setCell ⟨s + 1 + 1, 0, none⟩ (.bool true)).heap[D]? = some (.deferred (some [])) := (Below.heap_setCell _ _ _ _ (by simp; omega)).trans HK.out
   have hB2 : Boxed (W1.setCell ⟨s + 1 + 1, 0, none⟩ (.bool true)) (s + 1 + 1) 4 (.bool true) := Boxed.set (t := 4) _ HI.out.2.2.1
   have k0 := cell_of_one (Boxed.kept (t := 4) hB2 (grownBy_putObj' _ D (.deferred none)) (by simp; omega))
   refine ⟨by simp, .inl ⟨_, _, rfl, run_takeDeferred hK2, ?_⟩⟩
   refine ⟨.bool true, by simp [results, Try.results82, go_sem, k0], rfl, ?_⟩
   rw [← HS.out]
   exact (HI.out.2.2.2.2.setCell (p := ⟨s + 1 + 1, 0, none⟩) (show s ≤ s + 1 + 1 by omega) _).trans (belowK_b (w := W5) (n₀ := s) (by omega) _ D _ _ hD hK2 rfl rfl)
 case stop =>
   rintro D c pre W1 hD hSp ⟨rfl, hbx, hbl⟩ hK
   have HK := Lib.hid hK
   have HBX := Lib.hid hbx
   clear hK hbx HIter c1 c2 c3 c4
   gi_wp2
   have k0 := cell_of_one (Boxed.kept (t := 4) HBX.out (grownBy_putObj' _ D (.deferred none)) (by simp; omega))
   refine ⟨by simp, .inl ⟨_, _, rfl, run_takeDeferred HK.out, ?_⟩⟩
   refine ⟨.bool true, by simp [results, Try.results82, go_sem, k0], rfl, ?_⟩
   rw [← HS.out]
   exact hbl.trans (belowK_b (w := W5) (n₀ := s) (by omega) _ D _ _ hD HK.out rfl rfl)
end Go.Proofs.Ytnpiepimajippaa
