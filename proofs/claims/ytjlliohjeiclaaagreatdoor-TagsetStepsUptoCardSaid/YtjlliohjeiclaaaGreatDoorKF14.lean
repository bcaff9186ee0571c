/- Words, contracts and walks that the proof stands on (KpU TgV TgA TgE RelO TgN). -/
import Derived.Test.YtjlliohjeiclaaaGreatDoorKF1
import Derived.LoopIn
import Derived.LoopNIn
import Derived.OwnWalkIn
import Derived.TacticsInMore
import Derived.Test.YtjlliohjeiclaaaGreatDoorKF11
import Derived.Test.YtjlliohjeiclaaaGreatDoorKF13
import Derived.Test.YtjlliohjeiclaaaGreatDoorKF5
import Derived.Test.YtjlliohjeiclaaaGreatDoorKF6
import Derived.Test.YtjlliohjeiclaaaGreatDoorKF8
import Derived.Test.YtjlliohjeiclaaaGreatDoorKF9
namespace Go.Proofs.YtjlliohjeiclaaaGreatDoor
open Go.RowKit
section
attribute [local go_sem] Oper.semAt_some
theorem wpListIn_app {F : Fence} {nn : Nat} {P : Program} {w : World} {ops : Array Oper} {rest : List Oper} {o : Oper} {a : Act} {Q : Exit → Act → World → Prop} (hgd : o.guard = none) (s x : Operand) (t tx : TypeId)
 (ho : o.op = .call { callee := .builtin .append, args := #[s, x], argTypes := #[t, tx] })
 (base : Nat) (e : TypeId) (z : Value) (size bytes : Nat) (ht : ElemT P t e z size bytes)
 (v : Value) (n : Nat) (xs : List Value) (hv : a.eval s = v) (hown : w.ownsRow base e size v n xs)
 (xv : Value) (m : Nat) (news : List Value) (hx : a.eval x = xv) (hs : Src P size tx xv m news w)
 (h63 : n + m ≤ 4611686018427387904) (hbytes : (n + m) * bytes ≤ 140737488355328) (hbase : base ≤ w.heap.size)
 (h : ∀ v' w', w'.ownsRow base e size v' (n + m) (xs ++ news) → w.grownBy w' v.ownBlock → Below base w w' → (v'.ownBlock = v.ownBlock ∨ v'.ownBlock = some w.heap.size) → wpListIn F nn P ops Q rest (a.put o.dst v') w') : wpListIn F nn P ops Q (o :: rest) a w := by
 obtain ⟨h1, i, h2, h3, h4, h5, h6⟩ := ht
 refine wpListIn_plain hgd fun K hK' => ?_
 obtain ⟨v', w', hrun, r1, r2, r3, _⟩ := run_append_own_src (P := P) w base t tx o.type e i z size bytes h1 h2 h3 h4 h5 h6 v n xs hown xv m news hs (by unfold maxLen; omega) hbytes hbase
 unfold Oper.wpIn
 refine ⟨?_, ?_⟩
 · simp [Oper.about, ho, resolve, Target.leads, Sem.run_pure]
 · rw [Oper.semAt_plain F _ _ (by rw [ho]; intro c hc'; cases hc')]
   simp [execOp, ho, resolve, invoke, builtin, hv, hx, hrun, Result.andThen]
   exact hK' _ _ (h v' w' r1 r2 (below_of_grown hown hbase r2) r3)
end
structure KeepU (S : Nat → Prop) (W W' : World) : Prop where
 os : W'.os = W.os
 tape : W'.tape = W.tape
 output : W'.output = W.output
 size : W.heap.size ≤ W'.heap.size
 block : ∀ k, S k → W'.heap[k]? = W.heap[k]?
theorem KeepU.refl (S : Nat → Prop) (W : World) : KeepU S W W := ⟨rfl, rfl, rfl, Nat.le_refl _, fun _ _ => rfl⟩
theorem KeepU.trans {S : Nat → Prop} {A B C : World} (h : KeepU S A B) (k : KeepU S B C) : KeepU S A C :=
 ⟨k.os.trans h.os, k.tape.trans h.tape, k.output.trans h.output, Nat.le_trans h.size k.size, fun i hi => (k.block i hi).trans (h.block i hi)⟩
theorem KeepU.below {S : Nat → Prop} {N : Nat} {A B : World} (h : Below N A B) (hS : ∀ k, S k → k < N) : KeepU S A B := ⟨h.os, h.tape, h.output, h.size, fun i hi => h.block i (hS i hi)⟩
theorem KeepU.put {S : Nat → Prop} {N : Nat} (W : World) (l : Nat) (o : Obj) (hl : N ≤ l) (hS : ∀ k, S k → k < N) : KeepU S W (W.putObj l o) :=
 ⟨rfl, rfl, rfl, by simp, fun i hi => World.putObj_heap_other (by have := hS i hi; omega)⟩
theorem KeepU.cell {S : Nat → Prop} {A B : World} (h : KeepU S A B) {p : Addr} {v : Value} (hp : S p.block) (hc : A.cell? p = some v) : B.cell? p = some v := by
 unfold World.cell? at hc ⊢
 rw [h.block _ hp]; exact hc
theorem KeepU.cells {S : Nat → Prop} {A B : World} (h : KeepU S A B) {a : Option Addr} {vs : List Value} (hp : ∀ ad, a = some ad → S ad.block) (hc : CellsAt A a vs) : CellsAt B a vs := by
 intro i hi
 obtain ⟨b, off, rfl, c⟩ := hc i hi
 exact ⟨b, off, rfl, h.cell (p := ⟨b, off + i, none⟩) (hp ⟨b, off, none⟩ rfl) c⟩
end Go.Proofs.YtjlliohjeiclaaaGreatDoor
namespace Go.Proofs.YtjlliohjeiclaaaGreatDoor
open Go.RowKit St Pm
attribute [local go_sem] Oper.semAt_some
def stL (s : Sv) : List Value := [.int .i64 s.g, .int .i64 s.r, .string s.l, .int .i64 s.n, .int .i64 s.i]
def stsV (l : List Sv) : List Value := l.flatMap stL
theorem stsV_append (l m : List Sv) : stsV (l ++ m) = stsV l ++ stsV m := by unfold stsV; rw [List.flatMap_append]
theorem stT : ElemT Tryz.prog 71 43 (.agg #[.int .i64 0, .int .i64 0, .string ⟨#[]⟩, .int .i64 0, .int .i64 0]) 5 48 := ElemT.mk Tryz.underlying71 (by kernel_rfl) (by simp [Value.cells])
theorem own_cells {A B : World} {base n size : Nat} {e : TypeId} {v : Value} {xs : List Value} (ho : A.ownsRow base e size v n xs) (hc : ∀ (k : Nat) (c : Array Value) (t : TypeId) (fr : Nat × Nat), A.heap[k]? = some (Obj.cells c t fr) → B.heap[k]? = some (Obj.cells c t fr)) : B.ownsRow base e size v n xs := by
 refine ⟨ho.1, ?_⟩
 rcases ho.2 with h1 | ⟨g, cap, cur, hv, hb, hg, h3⟩
 · exact .inl h1
 · exact .inr ⟨g, cap, cur, hv, hb, hc _ _ _ _ hg, h3⟩
def tagS (p : ByteArray × ByteArray) : Sv := (decT p).1
def TvI (c B : Nat) (w : World) (pre : List (ByteArray × ByteArray)) (W : World) : Prop :=
 (∃ v, Boxed W c 71 v ∧ W.ownsRow B 43 5 v pre.length (stsV (pre.map tagS)) ∧ True) ∧ Below w.heap.size w W
theorem tvI_own {c B : Nat} {w : World} {M : Nat} (hc : c < M) (hw : w.heap.size ≤ M) : OwnFrom M (TvI c B w) := by
 rintro pre A A' row ⟨h2, h4⟩ hg hr
 exact ⟨(holdsRow_own B c _ _ 5 (fun pre : List (ByteArray × ByteArray) => pre.length) (fun pre => stsV (pre.map tagS)) (fun _ _ => True)).from M pre A A' row h2 hg hr, ownFrom_below (β := Unit) (Nat.le_refl _) hw () A A' row h4 hg hr⟩
theorem tags_sub {x : ByteArray} {t : Tr ByteArray} (p : ByteArray × ByteArray) (h : p ∈ tagsL x t) : p ∈ items t := fromL_subT _ t p ((List.takeWhile_sublist _).subset h)
def TagsOut (tr : Tr ByteArray) (x : ByteArray) (w : World) (e : Ending) (w' : World) : Prop :=
 ∃ v, e = .returned v ∧ Below w.heap.size w w' ∧ ((items tr).all goodT = true → w'.ownsRow w.heap.size 43 5 v (tagsL x tr).length (stsV ((tagsL x tr).map tagS))) ∧ ((items tr).all goodT = false → v = .slice none 0 0)
set_option maxRecDepth 100000 in
set_option maxHeartbeats 8000000 in
theorem ts_Tags (tr : Tr ByteArray) (x : ByteArray) (w : World) (h : AtS w tr) (hSr : Srt (items tr)) (hz : sz tr ≤ 100000) (hk : ∀ p ∈ items tr, p.1.size ≤ 70368744177663) (hx : x.size ≤ 4294967280) (hG : Glob w) :
 Calls Tryz.prog 28 #[.agg #[.pointer (pa tr)], .string x] w (TagsOut tr x w) := by
 have HT := Lib.hid h
 have HG := Lib.hid hG
 have HKK := Lib.hid hk
 have HSr := Lib.hid hSr
 have SUB := Lib.hid (tags_sub (x := x) (t := tr))
 have hLn : (tagsL x tr).length ≤ 100000 := by
  have h1 : (tagsL x tr).length ≤ (fromL (frontB x) tr).length := (List.takeWhile_sublist _).length_le
  have h2 : (fromL (frontB x) tr).length ≤ (items tr).length := by rw [fromL_filter _ _ hSr]; exact List.length_filter_le _ _
  rw [sz_items] at h2
  omega
 have O1 : Hid (∀ e w' v, (items tr).all goodT = true → e = .returned v → Below w.heap.size w w' → w'.ownsRow w.heap.size 43 5 v (tagsL x tr).length (stsV ((tagsL x tr).map tagS)) → TagsOut tr x w e w') := Lib.hid (fun e w' v h1 h2 h3 h4 => ⟨v, h2, h3, fun _ => h4, fun h => by rw [h1] at h; cases h⟩)
 have O2 : Hid (∀ e w', (items tr).all goodT = false → e = .returned (.slice none 0 0) → Below w.heap.size w w' → TagsOut tr x w e w') := Lib.hid (fun e w' h1 h2 h3 => ⟨_, h2, h3, fun h => (by rw [h1] at h; cases h), fun _ => rfl⟩)
 obtain ⟨g, hg⟩ : ∃ g, (items tr).all goodT = g := ⟨_, rfl⟩
 rw [hg] at O1 O2
 have GG := Lib.hid hg
 clear h hk hG hg hSr
 obtain ⟨z, hz0⟩ : ∃ z, w.heap.size = z := ⟨_, rfl⟩
 refine (callsIn_wide (n := 6)).1 ?_
 refine callsIn_of_wp_marks Tryz.func28 rfl trivial ?_ rfl
 simp only [Tryz.ntmps28, List.size_toArray, List.length_cons, List.length_nil, Nat.reduceAdd, Nat.reduceSub, Array.replicate_succ, Array.replicate_zero, List.push_toArray, List.append_toArray, List.nil_append, List.cons_append]
 refine wpIn_wide.2 ?_
 have HC : Hid (Chain [w] w) := Lib.hid (Chain.one w)
 go_upto_region 1 with (fail)
 obtain ⟨y, hy⟩ : ∃ c, w.heap.size = c := ⟨_, rfl⟩
 try rw [hy]
 obtain ⟨w1, hw1⟩ : ∃ X, allocs w [.cells #[.pointer (pa tr)] 27] = X := ⟨_, rfl⟩
 rw [show w.alloc (.cells #[.pointer (pa tr)] 27) = w1 from hw1]
 have hb : Below w.heap.size w w1 := by rw [← hw1]; exact allocs_below _ _
 have HM : Hid (w1.heap[y]? = some (.cells #[.pointer (pa tr)] 27 (0, 0))) := Lib.hid (by have := allocs_get [.cells #[.pointer (pa tr)] 27] w 0 _ rfl; rw [hw1, hy] at this; exact this)
 have Sy : Hid (w.heap.size = y) := Lib.hid hy
 replace HC := Lib.hid (HC.out.push hb)
 clear hb hw1 hy
 obtain rfl : y = z := by rw [← Sy.out, hz0]
 have kM0 := cell_of_one HM.out
 go_wp2_with fail
 refine (ts_May tr _ (HT.out.below (HC.out.to w (by simp)) rfl) hz HKK.out).mono ?_
 rintro e w2 ⟨rfl, hb⟩
 clear kM0
 replace HC := Lib.hid (HC.out.push hb)
 clear hb
 rw [GG.out]
 cases g
 case false =>
  have BF := Lib.hid (HC.out.to w (by simp))
  go_wp2_with fail
  try rw [Exit.noGoto_ret]
  try show LeavesInM _ _ _ _ _ _ (marks []) _ _
  refine leaves_marks [] _ (by simp) (fun p hp => by cases hp) ?_
  intro W' e1 e2 e3 e4 e5
  have bW : Below w.heap.size w W' := ⟨e1.trans BF.out.os, e2.trans BF.out.tape, e3.trans BF.out.output, by rw [e4]; exact BF.out.size, fun k hk => (e5 k (by simp)).trans (BF.out.block k hk)⟩
  refine ⟨.slice none 0 0, by simp [results, Tryz.results28, go_sem], ?_⟩
  exact O2.out _ _ (by simp) rfl bW
 case true =>
 have M2Z : Hid (y < w2.heap.size) := Lib.hid (Array.getElem?_eq_some_iff.1 (boxStays HM.out (HC.out.to w1 (by simp)))).1
 go_upto_region 4 with (fail)
 obtain ⟨c, hc⟩ : ∃ c, w2.heap.size = c := ⟨_, rfl⟩
 try rw [hc]
 obtain ⟨w3, hw3⟩ : ∃ X, allocs w2 [.cells #[.slice none 0 0] 71] = X := ⟨_, rfl⟩
 rw [show w2.alloc (.cells #[.slice none 0 0] 71) = w3 from hw3]
 have hb : Below w2.heap.size w2 w3 := by rw [← hw3]; exact allocs_below _ _
 have HK : Hid (w3.heap[c]? = some (.cells #[.slice none 0 0] 71 (0, 0))) := Lib.hid (by have := allocs_get [.cells #[.slice none 0 0] 71] w2 0 _ rfl; rw [hw3, hc] at this; exact this)
 have Sc : Hid (w2.heap.size = c) := Lib.hid hc
 replace HC := Lib.hid (HC.out.push hb)
 clear hb hw3 hc
 have kM0 := cell_of_one (boxStays HM.out (HC.out.to w1 (by simp)))
 go_wp2_with fail
 refine (ts_tags tr x _).mono ?_
 rintro e w5 ⟨tb, mb, rfl, hmb, htb, hbm, hbt, hb⟩
 clear kM0
 replace HC := Lib.hid (HC.out.push hb)
 clear hb
 have hcy : y < c := by have := M2Z.out; have := Sc.out; omega
 have BW5 := Lib.hid (HC.out.to w (by simp))
 have hC5 := boxStays HK.out (HC.out.to w3 (by simp))
 have hT5 := HT.out.below (HC.out.to w (by simp)) rfl
 have hG5 := HG.out.below (HC.out.to w (by simp))
 have hc5 : c < w5.heap.size := (Array.getElem?_eq_some_iff.1 hC5).1
 have hbl : ∀ b ∈ blocks tr, b < y := fun b hb => by have := HT.out.lt b hb; omega
 have hSlt : ∀ k, k ∈ blocks tr → k < w5.heap.size := fun k hk => hT5.lt k hk
 have HIter := ts_tags1 5 (by omega) tr x tb mb w5 (fun k => k ∈ blocks tr) (fun t => t = 43) (fun _ h => h) hbt hbm hT5 hx hG5 hSlt (fun b hb => hb)
 unfold GoesTags at HIter
 obtain ⟨L, hL⟩ : ∃ L, tagsL x tr = L := ⟨_, rfl⟩
 rw [hL] at HIter O1 hLn
 simp only [hL] at SUB
 have r5 : TvI c w5.heap.size w [] w5 := ⟨⟨_, hC5, World.ownsRow_nil _ _ _ _, trivial⟩, BW5.out⟩
 have hw5 : w.heap.size ≤ w5.heap.size := BW5.out.size
 have OWN : OwnFrom w5.heap.size (TvI c w5.heap.size w) := tvI_own (by omega) hw5
 have ST := Lib.hid stT
 clear hC5 hT5 hG5 hbm hbt hmb htb HC
 go_wp2_with fail
 refine (wpIn_wide (n := 6)).1 ?_
 refine range_law2 (n := 6) rfl (enters_of Tryz.func109 (by kernel_rfl) rfl) HIter (by omega) KeepE.trans (fun W o o' _ _ => KeepE.put W _ o' (by omega) (fun k hk => by have := hSlt k hk; omega)) (fun x => rfl) (fun pre => (by rintro _ _ _ _ h _ _; exact h)) ?_ (TvI c w5.heap.size w) (fun _ _ _ => False) (fun xs V => xs = L ∧ TvI c w5.heap.size w xs V) OWN ?_ ?_ ?_ r5
  (fun pre q a' V => TvI c w5.heap.size w pre V ∧ pre ++ [q] <+: L ∧ a' = { tmps := #[.agg #[.pointer (pa tr)], .string x, .pointer (some ⟨y, 0, none⟩), undef, .slice none 0 0, .pointer (some ⟨c, 0, none⟩), .string q.1, undef, undef, .agg #[.pointer (pa tr)], .bool true, .bool false, .agg #[.pointer (pa tr)], .string x, .func (.func 109) #[] #[.pointer (some ⟨tb, 0, none⟩), .pointer (some ⟨mb, 0, none⟩)], .string q.1, undef, undef, undef, undef, undef, undef, undef, undef, undef, undef, undef], defers := [] }) ?_ ?assign ?body ?done ?stop
 · rintro W1 _ xs A B ⟨_, hb, _⟩ k o hk ho _; exact (hb.block k hk).trans ho
 · rintro c xs A A' row h hg hr; exact h
 · rintro xs A A' row ⟨h1, h2⟩ hg hr
   exact ⟨h1, OWN xs A A' row h2 hg hr⟩
 · rintro W1 _ xs A B ⟨⟨v, g1, g2, _⟩, g9⟩ ⟨h1, hb, hc⟩
   exact ⟨h1, ⟨v, hc _ _ _ _ g1, own_cells g2 hc, trivial⟩, g9.trans (hb.mono (by omega))⟩
 · rintro q a' pre A A' row ⟨h1, h2, h3⟩ hg hr
   exact ⟨OWN pre A A' row h1 hg hr, h2, h3⟩
 case assign =>
  intro l pre q W K hi hx hsz hK
  have HI := Lib.hid hi
  clear hi
  simp only [encKey, List.zip_toArray, List.zip_cons_cons, List.zip_nil_right, List.foldl_toArray, List.foldl_cons, List.foldl_nil]
  gi_wp2
  exact hK _ _ ⟨Nat.le_refl _, fun _ _ _ h _ => h⟩ (KeepE.refl _) hsz ⟨HI.out, hx, rfl⟩
 case body =>
  rintro l pre ⟨k, v⟩ a' V ⟨⟨⟨u, h1, h2, _⟩, h9⟩, hp, rfl⟩ hsz
  have hpl : pre.length + 1 ≤ L.length := by have := hp.length_le; simpa using this
  have hmem : (k, v) ∈ items tr := SUB.out _ (hp.subset (by simp))
  have hks := HKK.out _ hmem
  obtain ⟨ok, hke⟩ := goodT_iff (List.all_eq_true.1 GG.out _ hmem)
  have hof : ofT k = some (decT (k, v)) := by
   have h1 := ofT_tag ok
   have h2 : (k, v).1 = tagK (decT (k, v)) := congrArg Prod.fst hke
   rw [← h2] at h1
   exact h1
  obtain ⟨e, he⟩ : ∃ e, decT (k, v) = e := ⟨_, rfl⟩
  rw [he] at hof
  have TS : Hid (tagS (k, v) = e.1) := Lib.hid (by unfold tagS; rw [he])
  have C9 : Hid (Boxed V c 71 u) := Lib.hid h1
  have R9 := Lib.hid h2
  have B9 := Lib.hid h9
  have OK := ts_OfKey k V hks
  rw [hof] at OK
  have OK9 := Lib.hid OK
  have hSV : ∀ k', k' ∈ blocks tr → k' < V.heap.size := fun k' hk' => Nat.lt_of_lt_of_le (hSlt k' hk') hsz
  obtain ⟨pn, hpn⟩ : ∃ n, pre.length = n := ⟨_, rfl⟩
  have PN := Lib.hid hpn
  rw [hpn] at R9 hpl
  clear HIter r5 OWN h1 h2 h9 hp hpn hmem hks ok hke hof he OK
  gi_wp2
  refine ⟨trivial, ?_⟩
  refine (CallsIn.inRound l (callsIn_wide.2 OK9.out)).mono ?_
  rintro e' V2 ⟨rfl, hb⟩
  have bb : Below V.heap.size V V2 := hb
  simp only [elO]
  have BS : Hid (Below V.heap.size V (V2.alloc (.cells #[.int .i64 e.1.g, .int .i64 e.1.r, .string e.1.l, .int .i64 e.1.n, .int .i64 e.1.i, .string e.2] 53))) := Lib.hid (bb.trans ((below_new V2 _).mono bb.size))
  have xS := heap_alloc_new V2 (.cells #[.int .i64 e.1.g, .int .i64 e.1.r, .string e.1.l, .int .i64 e.1.n, .int .i64 e.1.i, .string e.2] 53)
  have q0 := cell_of_row _ _ 0 _ _ _ xS
  have q1 := cell_of_row _ _ 1 _ _ _ xS
  have q2 := cell_of_row _ _ 2 _ _ _ xS
  have q3 := cell_of_row _ _ 3 _ _ _ xS
  have q4 := cell_of_row _ _ 4 _ _ _ xS
  have c3 := boxStays C9.out BS.out
  have k0 := cell_of_one c3
  have C3 : Hid (Boxed (V2.alloc (.cells #[.int .i64 e.1.g, .int .i64 e.1.r, .string e.1.l, .int .i64 e.1.n, .int .i64 e.1.i, .string e.2] 53)) c 71 u) := Lib.hid c3
  have O3 := Lib.hid (own_later R9.out BS.out (Nat.le_refl _))
  have HBS : Hid (w5.heap.size ≤ (V2.alloc (.cells #[.int .i64 e.1.g, .int .i64 e.1.r, .string e.1.l, .int .i64 e.1.n, .int .i64 e.1.i, .string e.2] 53)).heap.size) := Lib.hid (Nat.le_trans hsz BS.out.size)
  have SRC : Hid (Src Tryz.prog 5 71 (.slice (some ⟨V2.heap.size + 1, 0, none⟩) 1 1) 1 (stL e.1) ((V2.alloc (.cells #[.int .i64 e.1.g, .int .i64 e.1.r, .string e.1.l, .int .i64 e.1.n, .int .i64 e.1.i, .string e.2] 53)).alloc (.cells #[.int .i64 e.1.g, .int .i64 e.1.r, .string e.1.l, .int .i64 e.1.n, .int .i64 e.1.i] 43))) := Lib.hid (by
   have h := (CellsAt.new (V2.alloc (.cells #[.int .i64 e.1.g, .int .i64 e.1.r, .string e.1.l, .int .i64 e.1.n, .int .i64 e.1.i, .string e.2] 53)) 43 (0, 0) (stL e.1)).srcN (size := 5) (n := 1) rfl (by simp [stL, Value.oneCell']) Tryz.underlying71 1 (by decide)
   rw [World.size_alloc] at h
   exact h)
  clear hb bb xS c3
  gi_wp2_with (gi_at_builtin; go_must (refine wpListIn_app rfl _ _ 71 71 rfl w5.heap.size 43 _ 5 48 ST.out u pn _ rfl (O3.out.alloc _) _ 1 (stL e.1) rfl SRC.out (by omega) (by omega) (by have := HBS.out; simp at this ⊢; omega) ?_); go_must (intro v6 w6 hown hgr hbel _; obtain ⟨a6, cp6, hv6, _⟩ := own_slice hown; subst hv6; have c6 : Boxed w6 c 71 u := (C3.out.alloc _).kept hgr (Boxed.not_row C3.out (by decide) O3.out)); have kc6 := cell_of_one c6; have fc6 := frozen_of_row _ c 0 _ _ c6)
  have V6 : Hid (Boxed w6 c 71 u) := Lib.hid c6
  have OW6 := Lib.hid hown
  have GR := Lib.hid hgr
  have hcV : c < V.heap.size := by omega
  have hcs : c < (V2.alloc (.cells #[.int .i64 e.1.g, .int .i64 e.1.r, .string e.1.l, .int .i64 e.1.n, .int .i64 e.1.i, .string e.2] 53)).heap.size := (Array.getElem?_eq_some_iff.1 C3.out).1
  clear hown hgr hbel c6 kc6 fc6 k0 q0 q1 q2 q3 q4
  have hne : some c ≠ (Value.slice a6 (pn + 1) cp6).ownBlock := Boxed.not_row V6.out (by decide) OW6.out
  have RK : RowKeep c u V (w6.setCell ⟨c, 0, none⟩ (.slice a6 (pn + 1) cp6)) := RowKeep.after BS.out ⟨GR.out.os, GR.out.tape, GR.out.output, by have := GR.out.size; simp [World.setCell] at this ⊢; omega, fun k h1 h2 h3 =>
   (Below.heap_setCell _ _ _ _ (by simpa using h2)).trans ((GR.out.block k (by simp at h1 ⊢; omega) (fun e => h3 e.symm)).trans ((below_new _ _).block k h1))⟩
  have FIN := Lib.hid (show KeepsFrom w5.heap.size V (w6.setCell ⟨c, 0, none⟩ (.slice a6 (pn + 1) cp6)) ∧ KeepE (w5.heap.size + 2) (fun k => k ∈ blocks tr) (fun x => x = 43) V (w6.setCell ⟨c, 0, none⟩ (.slice a6 (pn + 1) cp6)) ∧ TvI c w5.heap.size w (pre ++ [(k, v)]) (w6.setCell ⟨c, 0, none⟩ (.slice a6 (pn + 1) cp6)) from
   ⟨RK.from C9.out R9.out _, RowKeep.keepE (t := 43) (u := u) RK R9.out (fun k hk => ⟨hSlt k hk, by have := hbl k hk; omega⟩) hSV (by omega),
    ⟨_, Boxed.set _ V6.out, by
     have e1 : stsV ((pre ++ [(k, v)]).map tagS) = stsV (pre.map tagS) ++ stL e.1 := by rw [List.map_append, stsV_append]; simp [stsV, TS.out]
     rw [e1, List.length_append, List.length_singleton, PN.out]
     exact OW6.out.kept (grownBy_setCell' w6 c _) (.inr hne.symm), trivial⟩, B9.out.trans (RK.below (by omega) R9.out hw5 B9.out.size)⟩)
  clear RK hne
  gi_wp2
  exact FIN.out
 case done =>
  rintro D xs V hD ⟨rfl, ⟨u, h1, h2, _⟩, h9⟩ hK
  have HKD := Lib.hid hK
  obtain ⟨a6, cp6, hv6, _⟩ := own_slice h2
  subst hv6
  have B9 := Lib.hid h9
  have R9 := Lib.hid h2
  have k0 := cell_of_one h1
  obtain ⟨pn, hpn⟩ : ∃ n, xs.length = n := ⟨_, rfl⟩
  rw [hpn] at R9 k0 O1
  clear HIter r5 OWN h1 h2 h9 hK hL hpn
  simp only [Exit.inBlock]
  go_wp2_with fail
  try rw [Exit.noGoto_ret]
  try show LeavesInM _ _ _ _ _ _ (marks [D]) _ _
  refine leaves_marks [D] _ (by simp) (fun p hp => ?_) ?_
  · obtain rfl : p = (D, .deferred (some [])) := by simpa [markF] using hp
    exact HKD.out
  · intro W' e1 e2 e3 e4 e5
    have bW : Below w.heap.size w W' := ⟨e1.trans B9.out.os, e2.trans B9.out.tape, e3.trans B9.out.output, by rw [e4]; exact B9.out.size, fun k hk => (e5 k (by simp; omega)).trans (B9.out.block k hk)⟩
    refine ⟨.slice a6 pn cp6, by simp [results, Tryz.results28, go_sem], ?_⟩
    exact O1.out _ _ _ (by simp) rfl bW (own_mono (own_cells R9.out (fun k c t fr hk => (e5 k (by simp; rintro rfl; rw [HKD.out] at hk; cases hk)).trans hk)) hw5)
 case stop =>
  rintro D c pre V hD hSp h hK
  exact absurd h id
theorem ts_Has (tr : Tr ByteArray) (x : ByteArray) (w : World) (h : AtS w tr) (hSr : Srt (items tr)) (hz : sz tr ≤ 100000) (hk : ∀ p ∈ items tr, p.1.size ≤ 70368744177663) (hx : x.size ≤ 4294967280) (hG : Glob w) :
 Calls Tryz.prog 27 #[.agg #[.pointer (pa tr)], .string x] w fun e w' => e = .returned (.bool ((items tr).all goodT && decide (0 < (tagsL x tr).length))) ∧ Below w.heap.size w w' := by
 have b1 := below_new w (.cells #[.pointer (pa tr)] 27)
 have C := Lib.hid (ts_Tags tr x _ (h.below b1 rfl) hSr hz hk hx (hG.below b1))
 have B1 := Lib.hid b1
 obtain ⟨g, hg⟩ : ∃ g, (items tr).all goodT = g := ⟨_, rfl⟩
 obtain ⟨n, hn⟩ : ∃ n, (tagsL x tr).length = n := ⟨_, rfl⟩
 unfold TagsOut at C
 rw [hg, hn] at C
 rw [hg, hn]
 clear h hk b1 hg hn
 go_enter Tryz.func27, Tryz.ntmps27
 go_wp2_with fail
 refine C.out.mono ?_
 rintro e w2 ⟨v, rfl, hb, h1, h2⟩
 have HB := Lib.hid (B1.out.trans (hb.mono B1.out.size))
 cases g with
 | true =>
  obtain ⟨a, c, rfl, _⟩ := own_slice (h1 rfl)
  by_cases hp : 0 < n
  · have hpi : (0 : Int) < (n : Int) := by omega
    have hd : (true && decide (0 < n)) = true := by simp [hp]
    have HD := Lib.hid hd
    clear h1 h2 hb hd
    go_wp2_with fail
    go_ret
    first | exact ⟨rfl, HB.out⟩ | exact ⟨by rw [HD.out]; rfl, HB.out⟩ | exact ⟨by simp [hp], HB.out⟩
  · have hpi : ¬ (0 : Int) < (n : Int) := by omega
    have hd : (true && decide (0 < n)) = false := by simp [hp]
    have HD := Lib.hid hd
    clear h1 h2 hb hd
    go_wp2_with fail
    go_ret
    first | exact ⟨rfl, HB.out⟩ | exact ⟨by rw [HD.out]; rfl, HB.out⟩ | exact ⟨by simp [hp], HB.out⟩
 | false =>
  obtain rfl := h2 rfl
  clear h1 h2 hb
  go_wp2_with fail
  go_ret
  exact ⟨rfl, HB.out⟩
end Go.Proofs.YtjlliohjeiclaaaGreatDoor
namespace Go.Proofs.YtjlliohjeiclaaaGreatDoor
open Go.RowKit St Pm
attribute [local go_sem] Oper.semAt_some
def sameT (x : Ev) (y : Ev) : Bool := decide (y.2 = x.2)
def grpT : List Ev → List (ByteArray × List Sv)
 | [] => []
 | x :: l => (x.2, x.1 :: (l.takeWhile (sameT x)).map (·.1)) :: grpT (l.dropWhile (sameT x))
termination_by l => l.length
decreasing_by
 have := (List.dropWhile_sublist (l := l) (sameT x)).length_le
 simp; omega
theorem grp_len : ∀ (n : Nat) (l : List Ev), l.length ≤ n → (grpT l).length ≤ l.length
 | _, [], _ => by rw [grpT]; exact Nat.le_refl _
 | 0, _ :: _, h => by simp at h
 | n + 1, x :: l, h => by
  rw [grpT]
  have h1 := (List.dropWhile_sublist (l := l) (sameT x)).length_le
  have h2 := grp_len n (l.dropWhile (sameT x)) (by simp at h; omega)
  simp; omega
structure GrX where
 t : ByteArray
 l : List Sv
 a : Option Addr
 c : Nat
def encGr (x : GrX) : Array Value := #[.string x.t, .slice x.a x.l.length x.c]
def GrX.pr (x : GrX) : ByteArray × List Sv := (x.t, x.l)
def GoesGrp (n gf : Nat) (lb : Array Value) (S : Nat → Prop) (Ex : TypeId → Prop) (L : List (ByteArray × List Sv)) (w : World) : Prop :=
 Iter2 n Tryz.prog gf lb encGr (KeepE (w.heap.size + 2) S Ex) (fun pre x W => (pre ++ [x]).map GrX.pr <+: L ∧ W.ownsRow (w.heap.size + 2) 43 5 (.slice x.a x.l.length x.c) x.l.length (stsV x.l)) (fun _ xs W2 W' => xs.map GrX.pr = L ∧ W2 = W') (fun pre => pre.map GrX.pr <+: L) w
theorem ts_All (tr : Tr ByteArray) (w : World) : Calls Tryz.prog 26 #[.agg #[.pointer (pa tr)]] w fun e w' =>
 ∃ mb, e = .returned (.func (.func 68) #[] #[.pointer (some ⟨mb, 0, none⟩)]) ∧ w.heap.size ≤ mb ∧ Boxed w' mb 27 (.pointer (pa tr)) ∧ Below w.heap.size w w' := by
 go_enter Tryz.func26, Tryz.ntmps26
 go_wp2_with fail
 go_ret
 exact ⟨w.heap.size, rfl, Nat.le_refl _, Boxed.new w _ _, below_new _ _⟩
theorem own_from {W : World} {base base' n size : Nat} {e : TypeId} {v : Value} {xs : List Value} (h : W.ownsRow base e size v n xs) (hb : base' ≤ base) : W.ownsRow base' e size v n xs := by
 obtain ⟨h1, h2⟩ := h
 refine ⟨h1, h2.imp id ?_⟩
 rintro ⟨g, cap, cur, k1, k2, k3⟩
 exact ⟨g, cap, cur, k1, Nat.le_trans hb k2, k3⟩
def shownT (t : Tr ByteArray) : List Ev := if (items t).all goodT = true then (items t).map decT else []
theorem grp_run {x : Ev} {rest : List Ev} {m : Nat} (h1 : 1 ≤ m) (hm : m ≤ (x :: rest).length) (hs : ∀ y ∈ (x :: rest).take m, y.2 = x.2) (hn : ∀ y, (x :: rest)[m]? = some y → y.2 ≠ x.2) :
 grpT (x :: rest) = (x.2, ((x :: rest).take m).map (·.1)) :: grpT ((x :: rest).drop m) := by
 obtain ⟨q, rfl⟩ : ∃ q, m = q + 1 := ⟨m - 1, by omega⟩
 rw [List.take_succ_cons] at hs ⊢
 rw [List.drop_succ_cons]
 rw [List.getElem?_cons_succ] at hn
 have e1 : rest.takeWhile (sameT x) = rest.take q ∧ rest.dropWhile (sameT x) = rest.drop q := by
  have hall : ∀ y ∈ rest.take q, sameT x y = true := fun y hy => decide_eq_true (hs y (List.mem_cons_of_mem _ hy))
  have hd : rest.drop q = [] ∨ ∃ y r, rest.drop q = y :: r ∧ sameT x y = false := by
   cases e : rest.drop q with
   | nil => exact .inl rfl
   | cons y r =>
    refine .inr ⟨y, r, rfl, decide_eq_false (hn y ?_)⟩
    have := congrArg (fun l : List Ev => l[0]?) e
    simpa using this
  have e : rest = rest.take q ++ rest.drop q := (List.take_append_drop q rest).symm
  constructor
  · conv => lhs; rw [e]
    rw [List.takeWhile_append_of_pos hall]
    rcases hd with h | ⟨y, r, h, hf⟩
    · rw [h]; simp
    · rw [h, List.takeWhile_cons_of_neg (by rw [hf]; simp)]; simp
  · conv => lhs; rw [e]
    rw [List.dropWhile_append_of_pos hall]
    rcases hd with h | ⟨y, r, h, hf⟩
    · rw [h]; rfl
    · rw [h, List.dropWhile_cons_of_neg (by rw [hf]; simp)]
 rw [grpT, e1.1, e1.2]
 rfl
theorem cells_same {A B : World} {g off : Nat} {vs : List Value} (h : CellsAt A (some ⟨g, off, none⟩) vs) (e : B.heap[g]? = A.heap[g]?) : CellsAt B (some ⟨g, off, none⟩) vs := by
 intro i hi
 obtain ⟨b, o, e1, hc⟩ := h i hi
 cases e1
 refine ⟨g, off, rfl, ?_⟩
 unfold World.cell? at hc ⊢
 rw [show B.heap[(⟨g, off + i, none⟩ : Addr).block]? = A.heap[(⟨g, off + i, none⟩ : Addr).block]? from e]
 exact hc
theorem own_block_of {W : World} {base N : Nat} {a : Option Addr} {c : Nat} {L : List Ev} (h : W.ownsRow base 53 6 (.slice a N c) N (elsV L)) (hN : L.length = N) :
 ∃ (gb : Nat) (ob : Obj), (0 < N → W.heap[gb]? = some ob ∧ base ≤ gb ∧ ∀ cs t fr, ob = .cells cs t fr → t = 53) ∧ ∀ V : World, (0 < N → V.heap[gb]? = some ob) → CellsAt V a (elsV L) := by
 have hC := CellsAt.ownN h
 rcases h.2 with ⟨_, h0⟩ | ⟨g, cap, cur, hv, hb, hg, _⟩
 · have : L = [] := List.length_eq_zero_iff.1 (by omega)
   subst this
   exact ⟨0, .deferred none, fun h => by omega, fun V _ => CellsAt.nil _ _⟩
 · cases hv
   refine ⟨g, _, fun _ => ⟨hg, hb, fun cs t fr e => by cases e; rfl⟩, fun V hV => ?_⟩
   by_cases h0 : 0 < N
   · exact cells_same hC ((hV h0).trans hg.symm)
   · have : L = [] := List.length_eq_zero_iff.1 (by omega)
     subst this
     exact CellsAt.nil _ _
def sliceLen : Value → Nat
 | .slice _ n _ => n
 | _ => 0
set_option maxRecDepth 100000 in
set_option maxHeartbeats 8000000 in
theorem ts_All1 (n : Nat) (hn : 1 ≤ n) (tr : Tr ByteArray) (mb : Nat) (w : World) (S : Nat → Prop) (Ex : TypeId → Prop) (hEx : ∀ t, Ex t → t ≠ 53) (hm : Boxed w mb 27 (.pointer (pa tr))) (h : AtS w tr) (hz : sz tr ≤ 100000) (hk : ∀ p ∈ items tr, p.1.size ≤ 70368744177663) (hS : ∀ k, S k → k < w.heap.size) :
 GoesGrp n 68 #[.pointer (some ⟨mb, 0, none⟩)] S Ex (grpT (shownT tr)) w := by
 intro ll J Jx W hW hW2 hJo _ hY h0
 have hJ : ∀ pre A B, J pre A → Below A.heap.size A B → J pre B := fun pre A B h hb => ownFrom_to hJo h hb
 have hmW : Boxed W mb 27 (.pointer (pa tr)) := boxStays hm hW
 have OB := Lib.hid (ts_ownB tr W (h.below hW rfl) hz hk)
 have HM := Lib.hid hmW
 have HW2 := Lib.hid hW2
 have HHW := Lib.hid hW
 have HY := Lib.hid hY
 have HJ := Lib.hid hJ
 have HSS := Lib.hid hS
 have H0 := Lib.hid h0
 have HZ : Hid ((shownT tr).length ≤ 100000) := Lib.hid (by
  unfold shownT
  split
  · rw [List.length_map, sz_items]; exact hz
  · exact Nat.zero_le _)
 have OB2 : Hid (Calls Tryz.prog 60 #[.agg #[.pointer (pa tr)]] W fun e w' => ∃ a c g, e = .returned (.tuple #[.slice a (shownT tr).length c, .bool g]) ∧ Below W.heap.size W w' ∧ w'.ownsRow W.heap.size 53 6 (.slice a (shownT tr).length c) (shownT tr).length (elsV (shownT tr)) ∧ (shownT tr).length ≤ c) := Lib.hid (by
  refine OB.out.mono ?_
  rintro e w' ⟨v, rfl, hb, h1, h2⟩
  unfold shownT
  cases hg : (items tr).all goodT with
  | true =>
   have h3 := h1 hg
   obtain ⟨a, c, rfl, h5, _⟩ := own_slice h3
   rw [if_pos rfl, List.length_map]
   exact ⟨a, c, true, rfl, hb, h3, h5⟩
  | false =>
   obtain rfl := h2 hg
   rw [if_neg (by simp)]
   exact ⟨none, 0, false, rfl, hb, World.ownsRow_nil _ _ _ _, Nat.le_refl _⟩)
 clear OB hW hW2 hY h0 hmW hm h hk hz hS hJo hJ
 generalize shownT tr = L at *
 obtain ⟨N, hN⟩ : ∃ N, L.length = N := ⟨_, rfl⟩
 rw [hN] at OB2 HZ
 have HN := Lib.hid hN
 have ST := Lib.hid stT
 clear hN
 refine callsIn_of_wp Tryz.func68 rfl trivial ?_ rfl
 simp only [Tryz.ntmps68, List.size_toArray, List.length_cons, List.length_nil, Nat.reduceAdd, Nat.reduceSub, Array.replicate_succ, Array.replicate_zero, List.push_toArray, List.append_toArray, List.nil_append, List.cons_append]
 have k0 := cell_of_one HM.out
 gi_wp2
 refine ⟨trivial, ?_⟩
 refine (callsIn_wide.2 OB2.out).mono ?_
 rintro e W3 ⟨a, c, g, rfl, hb, hown, hNc⟩
 obtain ⟨gb, ob, hgb, hcl⟩ := own_block_of hown HN.out
 have GB := Lib.hid hgb
 have CL := Lib.hid hcl
 have HB := Lib.hid hb
 have HJ3 := Lib.hid (HJ.out [] W W3 H0.out hb)
 clear hown hb k0 hgb hcl OB2
 gi_wp2
 gi_loopw [3] (fun lv wr => ∃ (pre : List GrX) (k : Nat) (a' : Option Addr) (c' : Nat), lv = .slice a' (N - k) c' ∧ k ≤ N ∧ N - k ≤ c' ∧ Hid (∀ V : World, (0 < N → V.heap[gb]? = some ob) → CellsAt V a' (elsV (L.drop k))) ∧ Hid (pre.map GrX.pr ++ grpT (L.drop k) = grpT L) ∧ J pre wr ∧ Hid (KeepE (w.heap.size + 2) S Ex W3 wr)) (fun lv _ => sliceLen lv)
 case atStart => exact ⟨[], 0, a, c, rfl, Nat.zero_le _, hNc, Lib.hid (fun V hV => by rw [List.drop_zero]; exact CL.out V hV), Lib.hid (by rw [List.drop_zero]; rfl), HJ3.out, Lib.hid (KeepE.refl _)⟩
 case round =>
  obtain ⟨pre, k, a', c', rfl, hk, hkc, HC, HP, hJr, HK⟩ := hrel
  have hMW : w.heap.size + 2 ≤ W.heap.size := HW2.out
  have GR : Hid (0 < N → wr.heap[gb]? = some ob) := Lib.hid (fun h => by
   obtain ⟨h1, h2, h3⟩ := GB.out h
   exact HK.out.rest gb ob (by omega) h1 (fun cs t fr e hx => hEx t hx (h3 cs t fr e)))
  by_cases hlt : k < N
  · obtain ⟨wo, hwo⟩ : ∃ V, V = wr := ⟨_, rfl⟩
    subst hwo
    have hkD : k < L.length := by rw [HN.out]; exact hlt
    obtain ⟨x, rest, hD⟩ : ∃ x rest, L.drop k = x :: rest := ⟨_, _, List.drop_eq_getElem_cons hkD⟩
    have hDl : (x :: rest).length = N - k := by rw [← hD, List.length_drop, HN.out]
    have hNZ : N ≤ 100000 := HZ.out
    have HDD := Lib.hid hD
    rw [hD] at HC HP
    obtain ⟨ba, oa, rfl, ca⟩ := els_get (HC.out wo GR.out) 0 (by simp)
    have ca' : ElCell wo ba oa x := by simpa using ca
    obtain ⟨p0, p1, p2, p3, p4, p5⟩ := ca'
    have hgt : (0 : Int) < ((N - k : Nat) : Int) := by omega
    have HDL := Lib.hid hDl
    have hdk : decide (0 < N - k) = true := decide_eq_true (by omega)
    clear ca hD hkD
    gi_wp2
    try simp only [hdk]
    clear p0 p1 p2 p3 p4 p5 hdk
    gi_loopw [3, 5] (fun lv sv wr => ∃ (m : Nat) (a2 : Option Addr) (c2 : Nat), lv = .slice a2 (N - k - m) c2 ∧ m ≤ N - k ∧ N - k - m ≤ c2 ∧ Hid (∀ y ∈ (x :: rest).take m, y.2 = x.2) ∧ Hid (∀ V : World, (0 < N → V.heap[gb]? = some ob) → CellsAt V a2 (elsV ((x :: rest).drop m))) ∧ Hid (wr.ownsRow wo.heap.size 43 5 sv m (stsV (((x :: rest).take m).map (·.1)))) ∧ Hid (Below wo.heap.size wo wr)) (fun lv _ _ => sliceLen lv)
    case atStart => exact ⟨0, _, c', rfl, Nat.zero_le _, hkc, Lib.hid (fun y hy => by simp at hy), Lib.hid (fun V hV => by rw [List.drop_zero]; exact HC.out V hV), Lib.hid (World.ownsRow_nil _ _ _ _), Lib.hid (Below.refl _ _)⟩
    case round =>
     obtain ⟨m, a2, c2, rfl, hm, hmc, HS, HC2, HO, HBq⟩ := hrel
     have GRq : Hid (0 < N → wr.heap[gb]? = some ob) := Lib.hid (fun h => (HBq.out.block gb (Array.getElem?_eq_some_iff.1 (GR.out h)).1).trans (GR.out h))
     by_cases hml : m < N - k
     · have hmD : m < (x :: rest).length := by rw [HDL.out]; exact hml
       obtain ⟨y, r2, hY2⟩ : ∃ y r2, (x :: rest).drop m = y :: r2 := ⟨_, _, List.drop_eq_getElem_cons hmD⟩
       have hym : (x :: rest)[m]? = some y := by
        have := congrArg (fun l : List Ev => l[0]?) hY2
        simpa using this
       have HYM := Lib.hid hym
       have HC2' := HC2
       rw [hY2] at HC2'
       obtain ⟨by_, oy, rfl, cy⟩ := els_get (HC2'.out wr GRq.out) 0 (by simp)
       have cy' : ElCell wr by_ oy y := by simpa using cy
       obtain ⟨p0, p1, p2, p3, p4, p5⟩ := cy'
       have hgt2 : (0 : Int) < ((N - k - m : Nat) : Int) := by omega
       clear cy hY2 hym hmD
       by_cases hy : y.2 = x.2
       · have hey : (y.2.toList == x.2.toList) = true := by rw [Pm.eq_iff]; exact decide_eq_true hy
         have hmD : m < (x :: rest).length := by rw [HDL.out]; exact hml
         have hTK : (x :: rest).take (m + 1) = (x :: rest).take m ++ [y] := by
          rw [List.take_add_one, HYM.out]; rfl
         have HS3 : Hid (∀ z ∈ (x :: rest).take (m + 1), z.2 = x.2) := Lib.hid (fun z hz => by
          rw [hTK] at hz
          rcases List.mem_append.1 hz with hz | hz
          · exact HS.out z hz
          · rw [List.mem_singleton.1 hz]; exact hy)
         have HTK := Lib.hid hTK
         have SL := Lib.hid (fun V => run_from (P := Tryz.prog) V 22 53 Tryz.underlying22 6 Tryz.sizeOf53 (some ⟨by_, oy, none⟩) (N - k - m) c2 1 1 rfl (by omega))
         have HC3 : Hid (∀ V : World, (0 < N → V.heap[gb]? = some ob) → CellsAt V (subN (some ⟨by_, oy, none⟩) c2 1 6) (elsV ((x :: rest).drop (m + 1)))) := Lib.hid (fun V hV => by
          have h1 := (HC2.out V hV).subN c2 1 6 (fun e => by rw [elsV_length, List.length_drop, HDL.out]; omega)
          rw [← List.drop_drop, elsV_drop _ 1]
          exact h1)
         generalize subN (some ⟨by_, oy, none⟩) c2 1 6 = a3 at *
         have SRC : Hid (Src Tryz.prog 5 71 (.slice (some ⟨wr.heap.size, 0, none⟩) 1 1) 1 (stL y.1) (wr.alloc (.cells #[.int .i64 y.1.g, .int .i64 y.1.r, .string y.1.l, .int .i64 y.1.n, .int .i64 y.1.i] 43))) := Lib.hid ((CellsAt.new wr 43 (0, 0) (stL y.1)).srcN (size := 5) (n := 1) rfl (by simp [stL, Value.oneCell']) Tryz.underlying71 1 (by decide))
         have HWS : Hid (wo.heap.size ≤ wr.heap.size) := Lib.hid HBq.out.size
         clear hmD hTK hy
         gi_wp2_with (gi_at_builtin; go_must (refine wpListIn_app rfl _ _ 71 71 rfl wo.heap.size 43 _ 5 48 ST.out _ m _ rfl (HO.out.alloc _) _ 1 (stL y.1) rfl SRC.out (by omega) (by omega) (by have := HWS.out; simp; omega) ?_); go_must (intro v6 w6 hown hgr hbel _); have sl := SL.out w6)
         have HO6 := Lib.hid hown
         have HB6 := Lib.hid ((HBq.out.alloc HWS.out _).trans hbel)
         clear hown hgr hbel p0 p1 p2 p3 p4 p5
         gi_wp2
         refine ⟨?rel, ?measure⟩
         case rel => exact ⟨m + 1, a3, c2 - 1, by rw [show N - k - (m + 1) = N - k - m - 1 by omega], by omega, by omega, HS3, HC3, Lib.hid (by rw [HTK.out, List.map_append, stsV_append]; simpa [stsV] using HO6.out), HB6⟩
         case measure => simp [sliceLen]; omega
       · have hey : (y.2.toList == x.2.toList) = false := by rw [Pm.eq_iff]; exact decide_eq_false hy
         have h1m : 1 ≤ m := by
          rcases Nat.eq_zero_or_pos m with h0 | h0
          · subst h0
            have := HYM.out
            simp at this
            exact absurd (by rw [← this]) hy
          · exact h0
         have hnx : ∀ z, (x :: rest)[m]? = some z → z.2 ≠ x.2 := fun z hz => by rw [HYM.out] at hz; cases hz; exact hy
         obtain ⟨as_, cs_, hsv, _⟩ := own_slice HO.out
         subst hsv
         have hgrp := grp_run h1m (by rw [HDL.out]; exact hm) HS.out hnx
         have hlen : (((x :: rest).take m).map (·.1)).length = m := by rw [List.length_map, List.length_take, HDL.out]; omega
         have hX : (pre ++ [(GrX.mk x.2 (((x :: rest).take m).map (·.1)) as_ cs_)]).map GrX.pr <+: grpT L ∧ wr.ownsRow (w.heap.size + 2) 43 5 (.slice as_ (((x :: rest).take m).map (·.1)).length cs_) (((x :: rest).take m).map (·.1)).length (stsV (((x :: rest).take m).map (·.1))) :=
          ⟨⟨grpT ((x :: rest).drop m), by rw [← HP.out, hgrp, List.map_append, List.append_assoc]; rfl⟩, by rw [hlen]; exact own_from HO.out (by have := HK.out.size; have := HB.out.size; omega)⟩
         have HX := Lib.hid hX.1
         have HG2 : Hid ((pre ++ [(GrX.mk x.2 (((x :: rest).take m).map (·.1)) as_ cs_)]).map GrX.pr ++ grpT (L.drop (k + m)) = grpT L) := Lib.hid (by rw [← List.drop_drop, HDD.out, ← HP.out, hgrp, List.map_append, List.append_assoc]; rfl)
         have HC3 : Hid (∀ V : World, (0 < N → V.heap[gb]? = some ob) → CellsAt V (some ⟨by_, oy, none⟩) (elsV (L.drop (k + m)))) := Lib.hid (fun V hV => by rw [← List.drop_drop, HDD.out]; exact HC2.out V hV)
         obtain ⟨fn, tmps, assign, body', hyy, hRR⟩ := HY.out pre (GrX.mk x.2 (((x :: rest).take m).map (·.1)) as_ cs_) wr (HJ.out _ _ _ hJr HBq.out) hX
         simp only [encGr] at hyy
         rw [hlen] at hyy
         have HK1 : Hid (KeepE (w.heap.size + 2) S Ex W3 wr) := Lib.hid (HK.out.trans (KeepE.below HBq.out (fun k hk => by have := HK.out.size; have := HB.out.size; have := HSS.out k hk; omega)))
         have RR := Lib.hid hRR
         have hnk : N - k - m = N - (k + m) := by omega
         clear hgrp hlen hX hnx HO hRR
         gi_wp2
         refine RR.out.mono ?_
         rintro e W' (⟨rfl, hJ', hkk⟩ | ⟨rfl, hJx', _⟩)
         · have HJ2 := Lib.hid hJ'
           have HK2 := Lib.hid (HK1.out.trans hkk)
           clear hJ' hkk hyy
           gi_wp2
           refine ⟨⟨_, k + m, (some ⟨by_, oy, none⟩), c2, by first | rfl | rw [hnk], by omega, by omega, HC3, HG2, HJ2.out, HK2⟩, ?_⟩
           simp [sliceLen]; omega
         · have HJ2 := Lib.hid hJx'
           clear hJx' hyy
           gi_wp2
           try rw [Exit.noGoto_ret]
           refine bodyPost_ret (results_none rfl _ _ _) rfl ?_
           exact ⟨⟨_, rfl⟩, .inr ⟨_, HX.out, HJ2.out⟩⟩
     · have h1m : 1 ≤ m := by omega
       have hnx : ∀ z, (x :: rest)[m]? = some z → z.2 ≠ x.2 := fun z hz => by
        rw [List.getElem?_eq_none (by rw [HDL.out]; omega)] at hz; cases hz
       have hgt2 : ¬ (0 : Int) < ((N - k - m : Nat) : Int) := by omega
       obtain ⟨as_, cs_, hsv, _⟩ := own_slice HO.out
       subst hsv
       have hgrp := grp_run h1m (by rw [HDL.out]; exact hm) HS.out hnx
       have hlen : (((x :: rest).take m).map (·.1)).length = m := by rw [List.length_map, List.length_take, HDL.out]; omega
       have hX : (pre ++ [(GrX.mk x.2 (((x :: rest).take m).map (·.1)) as_ cs_)]).map GrX.pr <+: grpT L ∧ wr.ownsRow (w.heap.size + 2) 43 5 (.slice as_ (((x :: rest).take m).map (·.1)).length cs_) (((x :: rest).take m).map (·.1)).length (stsV (((x :: rest).take m).map (·.1))) :=
        ⟨⟨grpT ((x :: rest).drop m), by rw [← HP.out, hgrp, List.map_append, List.append_assoc]; rfl⟩, by rw [hlen]; exact own_from HO.out (by have := HK.out.size; have := HB.out.size; omega)⟩
       have HX := Lib.hid hX.1
       have HG2 : Hid ((pre ++ [(GrX.mk x.2 (((x :: rest).take m).map (·.1)) as_ cs_)]).map GrX.pr ++ grpT (L.drop (k + m)) = grpT L) := Lib.hid (by rw [← List.drop_drop, HDD.out, ← HP.out, hgrp, List.map_append, List.append_assoc]; rfl)
       have HC3 : Hid (∀ V : World, (0 < N → V.heap[gb]? = some ob) → CellsAt V a2 (elsV (L.drop (k + m)))) := Lib.hid (fun V hV => by rw [← List.drop_drop, HDD.out]; exact HC2.out V hV)
       obtain ⟨fn, tmps, assign, body', hyy, hRR⟩ := HY.out pre (GrX.mk x.2 (((x :: rest).take m).map (·.1)) as_ cs_) wr (HJ.out _ _ _ hJr HBq.out) hX
       simp only [encGr] at hyy
       rw [hlen] at hyy
       have HK1 : Hid (KeepE (w.heap.size + 2) S Ex W3 wr) := Lib.hid (HK.out.trans (KeepE.below HBq.out (fun k hk => by have := HK.out.size; have := HB.out.size; have := HSS.out k hk; omega)))
       have RR := Lib.hid hRR
       have hnk : N - k - m = N - (k + m) := by omega
       clear hgrp hlen hX hnx HO hRR
       gi_wp2
       refine RR.out.mono ?_
       rintro e W' (⟨rfl, hJ', hkk⟩ | ⟨rfl, hJx', _⟩)
       · have HJ2 := Lib.hid hJ'
         have HK2 := Lib.hid (HK1.out.trans hkk)
         clear hJ' hkk hyy
         gi_wp2
         refine ⟨⟨_, k + m, a2, c2, by first | rfl | rw [hnk], by omega, by omega, HC3, HG2, HJ2.out, HK2⟩, ?_⟩
         simp [sliceLen]; omega
       · have HJ2 := Lib.hid hJx'
         clear hJx' hyy
         gi_wp2
         try rw [Exit.noGoto_ret]
         refine bodyPost_ret (results_none rfl _ _ _) rfl ?_
         exact ⟨⟨_, rfl⟩, .inr ⟨_, HX.out, HJ2.out⟩⟩
  · obtain rfl : k = N := by omega
    have e0 : k - k = 0 := by omega
    rw [e0]
    have HJr := Lib.hid hJr
    gi_wp2
    go_end0
    refine ⟨⟨_, rfl⟩, .inl ⟨pre, wr, HJr.out, ?_, rfl⟩⟩
    have := HP.out
    rw [List.drop_of_length_le (by rw [HN.out]; exact Nat.le_refl _), grpT, List.append_nil] at this
    exact this
end Go.Proofs.YtjlliohjeiclaaaGreatDoor
namespace Go.Proofs.YtjlliohjeiclaaaGreatDoor
open Go.RowKit St Pm
attribute [local go_sem] Oper.semAt_some
theorem txT : ElemT Tryz.prog 63 9 (.string ⟨#[]⟩) 1 16 := ElemT.mk Tryz.underlying63 (by kernel_rfl) (by simp [Value.cells])
def TeI (c B : Nat) (w : World) (pre : List GrX) (W : World) : Prop :=
 (∃ v, Boxed W c 63 v ∧ W.ownsRow B 9 1 v pre.length (txV (pre.map (·.t))) ∧ True) ∧ Below w.heap.size w W
theorem teI_own {c B : Nat} {w : World} {M : Nat} (hc : c < M) (hw : w.heap.size ≤ M) : OwnFrom M (TeI c B w) := by
 rintro pre A A' row ⟨h2, h4⟩ hg hr
 exact ⟨(holdsRow_own B c _ _ 1 (fun pre : List GrX => pre.length) (fun pre => txV (pre.map (·.t))) (fun _ _ => True)).from M pre A A' row h2 hg hr, ownFrom_below (β := Unit) (Nat.le_refl _) hw () A A' row h4 hg hr⟩
def TextsOut (tr : Tr ByteArray) (w : World) (e : Ending) (w' : World) : Prop :=
 ∃ v c, e = .returned (.tuple #[v, .int .i64 c]) ∧ Below w.heap.size w w' ∧ ((items tr).all goodT = true → c = 0 ∧ w'.ownsRow w.heap.size 9 1 v (grpT (shownT tr)).length (txV ((grpT (shownT tr)).map (·.1)))) ∧ ((items tr).all goodT = false → c = 2 ∧ v = .slice none 0 0)
set_option maxRecDepth 100000 in
set_option maxHeartbeats 8000000 in
theorem ts_Texts (tr : Tr ByteArray) (w : World) (h : AtS w tr) (hz : sz tr ≤ 100000) (hk : ∀ p ∈ items tr, p.1.size ≤ 70368744177663) :
 Calls Tryz.prog 24 #[.agg #[.pointer (pa tr)]] w (TextsOut tr w) := by
 have HT := Lib.hid h
 have HKK := Lib.hid hk
 have hLn : (grpT (shownT tr)).length ≤ 100000 := by
  have h1 := grp_len _ (shownT tr) (Nat.le_refl _)
  have h2 : (shownT tr).length ≤ 100000 := by
   unfold shownT
   split
   · rw [List.length_map, sz_items]; exact hz
   · exact Nat.zero_le _
  omega
 have O1 : Hid (∀ e w' v, (items tr).all goodT = true → e = .returned (.tuple #[v, .int .i64 0]) → Below w.heap.size w w' → w'.ownsRow w.heap.size 9 1 v (grpT (shownT tr)).length (txV ((grpT (shownT tr)).map (·.1))) → TextsOut tr w e w') := Lib.hid (fun e w' v h1 h2 h3 h4 => ⟨v, 0, h2, h3, fun _ => ⟨rfl, h4⟩, fun h => by rw [h1] at h; cases h⟩)
 have O2 : Hid (∀ e w', (items tr).all goodT = false → e = .returned (.tuple #[.slice none 0 0, .int .i64 2]) → Below w.heap.size w w' → TextsOut tr w e w') := Lib.hid (fun e w' h1 h2 h3 => ⟨_, 2, h2, h3, fun h => (by rw [h1] at h; cases h), fun _ => ⟨rfl, rfl⟩⟩)
 obtain ⟨g, hg⟩ : ∃ g, (items tr).all goodT = g := ⟨_, rfl⟩
 rw [hg] at O1 O2
 have GG := Lib.hid hg
 clear h hk hg
 obtain ⟨z, hz0⟩ : ∃ z, w.heap.size = z := ⟨_, rfl⟩
 refine (callsIn_wide (n := 6)).1 ?_
 refine callsIn_of_wp_marks Tryz.func24 rfl trivial ?_ rfl
 simp only [Tryz.ntmps24, List.size_toArray, List.length_cons, List.length_nil, Nat.reduceAdd, Nat.reduceSub, Array.replicate_succ, Array.replicate_zero, List.push_toArray, List.append_toArray, List.nil_append, List.cons_append]
 refine wpIn_wide.2 ?_
 have HC : Hid (Chain [w] w) := Lib.hid (Chain.one w)
 go_upto_region 1 with (fail)
 obtain ⟨y, hy⟩ : ∃ c, w.heap.size = c := ⟨_, rfl⟩
 try rw [hy]
 obtain ⟨w1, hw1⟩ : ∃ X, allocs w [.cells #[.pointer (pa tr)] 27] = X := ⟨_, rfl⟩
 rw [show w.alloc (.cells #[.pointer (pa tr)] 27) = w1 from hw1]
 have hb : Below w.heap.size w w1 := by rw [← hw1]; exact allocs_below _ _
 have HM : Hid (w1.heap[y]? = some (.cells #[.pointer (pa tr)] 27 (0, 0))) := Lib.hid (by have := allocs_get [.cells #[.pointer (pa tr)] 27] w 0 _ rfl; rw [hw1, hy] at this; exact this)
 have Sy : Hid (w.heap.size = y) := Lib.hid hy
 replace HC := Lib.hid (HC.out.push hb)
 clear hb hw1 hy
 obtain rfl : y = z := by rw [← Sy.out, hz0]
 have kM0 := cell_of_one HM.out
 go_wp2_with fail
 refine (ts_May tr _ (HT.out.below (HC.out.to w (by simp)) rfl) hz HKK.out).mono ?_
 rintro e w2 ⟨rfl, hb⟩
 clear kM0
 replace HC := Lib.hid (HC.out.push hb)
 clear hb
 rw [GG.out]
 cases g
 case false =>
  have BF := Lib.hid (HC.out.to w (by simp))
  go_wp2_with fail
  try rw [Exit.noGoto_ret]
  try show LeavesInM _ _ _ _ _ _ (marks []) _ _
  refine leaves_marks [] _ (by simp) (fun p hp => by cases hp) ?_
  intro W' e1 e2 e3 e4 e5
  have bW : Below w.heap.size w W' := ⟨e1.trans BF.out.os, e2.trans BF.out.tape, e3.trans BF.out.output, by rw [e4]; exact BF.out.size, fun k hk => (e5 k (by simp)).trans (BF.out.block k hk)⟩
  refine ⟨.tuple #[.slice none 0 0, .int .i64 2], by simp [results, Tryz.results24, go_sem], ?_⟩
  exact O2.out _ _ (by simp) rfl bW
 case true =>
 have M2Z : Hid (y < w2.heap.size) := Lib.hid (Array.getElem?_eq_some_iff.1 (boxStays HM.out (HC.out.to w1 (by simp)))).1
 go_upto_region 4 with (fail)
 obtain ⟨c, hc⟩ : ∃ c, w2.heap.size = c := ⟨_, rfl⟩
 try rw [hc]
 obtain ⟨w3, hw3⟩ : ∃ X, allocs w2 [.cells #[.slice none 0 0] 63] = X := ⟨_, rfl⟩
 rw [show w2.alloc (.cells #[.slice none 0 0] 63) = w3 from hw3]
 have hb : Below w2.heap.size w2 w3 := by rw [← hw3]; exact allocs_below _ _
 have HK : Hid (w3.heap[c]? = some (.cells #[.slice none 0 0] 63 (0, 0))) := Lib.hid (by have := allocs_get [.cells #[.slice none 0 0] 63] w2 0 _ rfl; rw [hw3, hc] at this; exact this)
 have Sc : Hid (w2.heap.size = c) := Lib.hid hc
 replace HC := Lib.hid (HC.out.push hb)
 clear hb hw3 hc
 have kM0 := cell_of_one (boxStays HM.out (HC.out.to w1 (by simp)))
 go_wp2_with fail
 refine (ts_All tr _).mono ?_
 rintro e w5 ⟨mb, rfl, hmb, hbm, hb⟩
 clear kM0
 replace HC := Lib.hid (HC.out.push hb)
 clear hb
 have hcy : y < c := by have := M2Z.out; have := Sc.out; omega
 have BW5 := Lib.hid (HC.out.to w (by simp))
 have hC5 := boxStays HK.out (HC.out.to w3 (by simp))
 have hT5 := HT.out.below (HC.out.to w (by simp)) rfl
 have hc5 : c < w5.heap.size := (Array.getElem?_eq_some_iff.1 hC5).1
 have HIter := ts_All1 5 (by omega) tr mb w5 (fun _ => False) (fun t => t = 9) (fun t h => by rw [h]; decide) hbm hT5 hz HKK.out (fun k h => h.elim)
 unfold GoesGrp at HIter
 obtain ⟨L, hL⟩ : ∃ L, grpT (shownT tr) = L := ⟨_, rfl⟩
 rw [hL] at HIter O1 hLn
 have r5 : TeI c w5.heap.size w [] w5 := ⟨⟨_, hC5, World.ownsRow_nil _ _ _ _, trivial⟩, BW5.out⟩
 have hw5 : w.heap.size ≤ w5.heap.size := BW5.out.size
 have OWN : OwnFrom w5.heap.size (TeI c w5.heap.size w) := teI_own (by omega) hw5
 have ST := Lib.hid txT
 clear hC5 hT5 hbm hmb HC
 go_wp2_with fail
 refine (wpIn_wide (n := 6)).1 ?_
 refine range_law2 (n := 6) rfl (enters_of Tryz.func68 (by kernel_rfl) rfl) HIter (by omega) KeepE.trans (fun W o o' _ _ => KeepE.put W _ o' (by omega) (fun k hk => hk.elim)) (fun x => rfl) (fun pre => ?hX) ?_ (TeI c w5.heap.size w) (fun _ _ _ => False) (fun xs V => xs.map GrX.pr = L ∧ TeI c w5.heap.size w xs V) OWN ?_ ?_ ?_ r5
  (fun pre q a' V => TeI c w5.heap.size w pre V ∧ (pre ++ [q]).map GrX.pr <+: L ∧ a' = { tmps := #[.agg #[.pointer (pa tr)], .pointer (some ⟨y, 0, none⟩), .slice none 0 0, .int .i64 0, .pointer (some ⟨c, 0, none⟩), .string q.t, .agg #[.pointer (pa tr)], .bool true, .bool false, .agg #[.pointer (pa tr)], .func (.func 68) #[] #[.pointer (some ⟨mb, 0, none⟩)], .string q.t, .slice q.a q.l.length q.c, undef, undef, undef, undef, undef], defers := [] }) ?_ ?assign ?body ?done ?stop
 case hX =>
  rintro x A A' row ⟨h1, h2⟩ hg hr
  exact ⟨h1, own_cells h2 (fun k c t fr hk => heap_kept hg (fun r e => (hr r e).2) hk)⟩
 · rintro W1 _ xs A B ⟨_, rfl⟩ k o _ ho _; exact ho
 · rintro c xs A A' row h hg hr; exact h
 · rintro xs A A' row ⟨h1, h2⟩ hg hr
   exact ⟨h1, OWN xs A A' row h2 hg hr⟩
 · rintro W1 _ xs A B h ⟨h1, rfl⟩; exact ⟨h1, h⟩
 · rintro q a' pre A A' row ⟨h1, h2, h3⟩ hg hr
   exact ⟨OWN pre A A' row h1 hg hr, h2, h3⟩
 case assign =>
  rintro l pre q W K hi ⟨hx, _⟩ hsz hK
  have HI := Lib.hid hi
  clear hi
  simp only [encGr, List.zip_toArray, List.zip_cons_cons, List.zip_nil_right, List.foldl_toArray, List.foldl_cons, List.foldl_nil]
  gi_wp2
  exact hK _ _ ⟨Nat.le_refl _, fun _ _ _ h _ => h⟩ (KeepE.refl _) hsz ⟨HI.out, hx, rfl⟩
 case body =>
  rintro l pre q a' V ⟨⟨⟨u, h1, h2, _⟩, h9⟩, hp, rfl⟩ hsz
  have hpl : pre.length + 1 ≤ L.length := by have := hp.length_le; simpa using this
  have C9 : Hid (Boxed V c 63 u) := Lib.hid h1
  have R9 := Lib.hid h2
  have B9 := Lib.hid h9
  obtain ⟨pn, hpn⟩ : ∃ n, pre.length = n := ⟨_, rfl⟩
  have PN := Lib.hid hpn
  rw [hpn] at R9 hpl
  have k0 := cell_of_one C9.out
  obtain ⟨t, ls, qa, qc⟩ := q
  have SRC : Hid (Src Tryz.prog 1 63 (.slice (some ⟨V.heap.size, 0, none⟩) 1 1) 1 [.string t] (V.alloc (.cells #[.string t] 9))) := Lib.hid ((CellsAt.new V 9 (0, 0) [.string t]).srcN (size := 1) (n := 1) rfl (by simp [Value.oneCell']) Tryz.underlying63 1 (by decide))
  have HBS : Hid (w5.heap.size ≤ V.heap.size) := Lib.hid hsz
  clear HIter r5 OWN h1 h2 h9 hp hpn
  simp only
  gi_wp2_with (gi_at_builtin; go_must (refine wpListIn_app rfl _ _ 63 63 rfl w5.heap.size 9 _ 1 16 ST.out u pn _ rfl (R9.out.alloc _) _ 1 [.string t] rfl SRC.out (by omega) (by omega) (by have := HBS.out; simp; omega) ?_); go_must (intro v6 w6 hown hgr hbel _; obtain ⟨a6, cp6, hv6, _⟩ := own_slice hown; subst hv6; have c6 : Boxed w6 c 63 u := (C9.out.alloc _).kept hgr (Boxed.not_row C9.out (by decide) R9.out)); have kc6 := cell_of_one c6; have fc6 := frozen_of_row _ c 0 _ _ c6)
  have V6 : Hid (Boxed w6 c 63 u) := Lib.hid c6
  have OW6 := Lib.hid hown
  have GR := Lib.hid hgr
  have hcV : c < V.heap.size := by omega
  clear hown hgr hbel c6 kc6 fc6 k0
  have hne : some c ≠ (Value.slice a6 (pn + 1) cp6).ownBlock := Boxed.not_row V6.out (by decide) OW6.out
  have RK : RowKeep c u V (w6.setCell ⟨c, 0, none⟩ (.slice a6 (pn + 1) cp6)) := ⟨GR.out.os, GR.out.tape, GR.out.output, by have := GR.out.size; simp [World.setCell] at this ⊢; omega, fun k h1 h2 h3 =>
   (Below.heap_setCell _ _ _ _ (by simpa using h2)).trans ((GR.out.block k (by simp; omega) (fun e => h3 e.symm)).trans ((below_new _ _).block k h1))⟩
  have FIN := Lib.hid (show KeepsFrom w5.heap.size V (w6.setCell ⟨c, 0, none⟩ (.slice a6 (pn + 1) cp6)) ∧ KeepE (w5.heap.size + 2) (fun _ => False) (fun x => x = 9) V (w6.setCell ⟨c, 0, none⟩ (.slice a6 (pn + 1) cp6)) ∧ TeI c w5.heap.size w (pre ++ [GrX.mk t ls qa qc]) (w6.setCell ⟨c, 0, none⟩ (.slice a6 (pn + 1) cp6)) from
   ⟨RK.from C9.out R9.out _, RowKeep.keepE (t := 9) (u := u) RK R9.out (fun k hk => hk.elim) (fun k hk => hk.elim) (by omega),
    ⟨_, Boxed.set _ V6.out, by
     have e1 : txV ((pre ++ [GrX.mk t ls qa qc]).map (·.t)) = txV (pre.map (·.t)) ++ [.string t] := by simp [txV]
     rw [e1, List.length_append, List.length_singleton, PN.out]
     exact OW6.out.kept (grownBy_setCell' w6 c _) (.inr hne.symm), trivial⟩, B9.out.trans (RK.below (by omega) R9.out hw5 B9.out.size)⟩)
  clear RK hne
  gi_wp2
  exact FIN.out
 case done =>
  rintro D xs V hD ⟨hxs, ⟨u, h1, h2, _⟩, h9⟩ hK
  have HKD := Lib.hid hK
  obtain ⟨a6, cp6, hv6, _⟩ := own_slice h2
  subst hv6
  have B9 := Lib.hid h9
  have hlen : xs.length = L.length := by rw [← hxs, List.length_map]
  have htx : xs.map (·.t) = L.map (·.1) := by rw [← hxs, List.map_map]; rfl
  rw [hlen, htx] at h2
  rw [hlen] at h1
  have R9 := Lib.hid h2
  have k0 := cell_of_one h1
  obtain ⟨pn, hpn⟩ : ∃ n, L.length = n := ⟨_, rfl⟩
  rw [hpn] at R9 k0 O1
  clear HIter r5 OWN h1 h2 h9 hK hL hpn hxs hlen htx
  simp only [Exit.inBlock]
  go_wp2_with fail
  try rw [Exit.noGoto_ret]
  try show LeavesInM _ _ _ _ _ _ (marks [D]) _ _
  refine leaves_marks [D] _ (by simp) (fun p hp => ?_) ?_
  · obtain rfl : p = (D, .deferred (some [])) := by simpa [markF] using hp
    exact HKD.out
  · intro W' e1 e2 e3 e4 e5
    have bW : Below w.heap.size w W' := ⟨e1.trans B9.out.os, e2.trans B9.out.tape, e3.trans B9.out.output, by rw [e4]; exact B9.out.size, fun k hk => (e5 k (by simp; omega)).trans (B9.out.block k hk)⟩
    refine ⟨.tuple #[.slice a6 pn cp6, .int .i64 0], by simp [results, Tryz.results24, go_sem], ?_⟩
    exact O1.out _ _ _ (by simp) rfl bW (own_mono (own_cells R9.out (fun k c t fr hk => (e5 k (by simp; rintro rfl; rw [HKD.out] at hk; cases hk)).trans hk)) hw5)
 case stop =>
  rintro D c pre V hD hSp h hK
  exact absurd h id
end Go.Proofs.YtjlliohjeiclaaaGreatDoor
namespace Go.Proofs.YtjlliohjeiclaaaGreatDoor
open Go.RowKit
section
variable {P : Program} {ops : Array Oper} {Q : Exit → Act → World → Prop} {id : Nat} {base : Array Value} {df : List Deferred} {slots : List Nat} {W0 : World}
theorem getD_some {t : Array Value} {k : Nat} {b : Bool} (h : t[k]?.getD undef = .bool b) : t[k]? = some (.bool b) := by
 cases e : t[k]? with
 | none => rw [e] at h; cases h
 | some x => rw [e] at h; exact congrArg some h
theorem ext_val (x : Value) (ix : Nat) : (∃ v, Instr.extract x ix = pure v) ∨ (∃ s, Instr.extract x ix = stuck s) := by
 unfold Instr.extract
 split
 · split
   · exact .inl ⟨_, rfl⟩
   · exact .inr ⟨_, rfl⟩
 · exact .inr ⟨_, rfl⟩
theorem wpOp_ext {i : Nat} {o : Oper} {t : Operand} {ix : Nat} (ho : ops[i]? = some o) (hg : o.guard = none) (hop : o.op = .extract t ix) {K : Act → World → Prop} {a : Act} {w : World} (h : wpOp P ops Q i K a w) :
 ∃ v, K (a.put (dstN ops i) v) w ∧ ∀ (K' : Act → World → Prop) (w2 : World), K' (a.put (dstN ops i) v) w2 → wpOp P ops Q i K' a w2 := by
 have hd : dstN ops i = o.dst := by unfold dstN; rw [ho]; rfl
 rw [hd]
 unfold wpOp at h ⊢
 rw [ho] at h ⊢
 simp only [wanted_none hg, if_true] at h ⊢
 rcases ext_val (a.eval t) ix with ⟨v, hv⟩ | ⟨s, hs⟩
 · have he : execOp a.eval o = pure (.value v) := by
    unfold execOp
    simp [hop, hv]
   refine ⟨v, ?_, fun K' w2 hK' => .inl ?_⟩
   · rcases h with h | ⟨h1, _⟩
     · unfold Oper.wp at h; rw [he] at h; exact h
     · unfold Oper.asks at h1
       rw [he] at h1
       have h2 : noRoomEvent ∈ (#[] : Array _) := h1.1
       cases (Array.not_mem_empty _ h2)
   · unfold Oper.wp; rw [he]; exact hK'
 · exfalso
   have he : execOp a.eval o = (stuck s : Sem Next) := by
    unfold execOp
    simp [hop, hs]
    rfl
   rcases h with h | ⟨h1, _⟩
   · unfold Oper.wp at h; rw [he] at h; exact h
   · unfold Oper.asks at h1
     rw [he] at h1
     have h2 : noRoomEvent ∈ (#[] : Array _) := h1.1
     cases (Array.not_mem_empty _ h2)
def freeB (ops : Array Oper) (i : Nat) : Bool := copyB ops i || match ops[i]? with
 | some o => o.guard.isNone && (match o.op with
  | .extract _ _ => true
  | _ => false)
 | none => false
theorem wpOp_free {i : Nat} (hf : freeB ops i = true) {K : Act → World → Prop} {a : Act} {w : World} (h : wpOp P ops Q i K a w) :
 ∃ v, K (a.put (dstN ops i) v) w ∧ ∀ (K' : Act → World → Prop) (w2 : World), K' (a.put (dstN ops i) v) w2 → wpOp P ops Q i K' a w2 := by
 unfold freeB at hf
 rw [Bool.or_eq_true] at hf
 rcases hf with hf | hf
 · obtain ⟨x, hx⟩ := wpOp_copy (P := P) (Q := Q) hf
   exact ⟨a.eval x, (hx _ _ _).1 h, fun K' w2 hK' => (hx _ _ _).2 hK'⟩
 · cases ho : ops[i]? with
   | none => rw [ho] at hf; cases hf
   | some o =>
    rw [ho] at hf
    simp only [Bool.and_eq_true] at hf
    have hg : o.guard = none := by simpa using hf.1
    have h2 := hf.2
    split at h2
    · rename_i t ix hop
      exact wpOp_ext ho hg hop h
    · cases h2
def blkOf : Value → Nat
 | .pointer (some a) => a.block
 | _ => 0
def ownOK (ops : Array Oper) (s x ix y iy : Nat) : Bool := decide (s < ops.size) && (dstN ops s == none) && (dstN ops ix == some x) && (dstN ops iy == some y) && needsN ops 6 s ix && needsN ops 6 s iy
def freeOK1 (ops : Array Oper) (s : Nat) : Bool := (List.range ops.size).all fun i => i == s || (freeB ops i || needsN ops 6 s i)
theorem setRow_one {w : World} {b : Nat} {u v : Value} {t : TypeId} {fr : Nat × Nat} (h : w.heap[b]? = some (.cells #[u] t fr)) : w.setRow b #[v] = w.setCell ⟨b, 0, none⟩ v := by
 unfold World.setRow World.setCell
 simp only [World.mk.injEq, true_and, and_true]
 apply Array.ext_getElem?
 intro k
 simp only [Array.getElem?_modify]
 by_cases e : b = k
 · subst e
   simp [h]
 · simp [e]
theorem relG_own {gs : List Pr} (s x ix y iy : Nat) (ps psS : List (Nat × Nat × Nat)) (hm : P.follows .mixedOrders = true) (hl : gs.length = ops.size) (hps : finOK ops ps = true) (hpsS : stoDeps ops [s] psS = true)
 (hS : ownOK ops s x ix y iy = true) (hfr : freeOK1 ops s = true)
 (hst : ∀ f w, Below W0.heap.size W0 w → FinF gs f w psS → ∀ K : Act → World → Prop, K { tmps := regT base slots f, defers := df } (w.setRow (blkOf (f x)) (f y).cells) → wpOp P ops Q s K { tmps := regT base slots f, defers := df } w)
 (h : ∀ f w, Below W0.heap.size W0 w → FinF gs f w ps → Q .normal { tmps := regT base slots f, defers := df } (w.setRow (blkOf (f x)) (f y).cells)) : RelG P ops Q id base df slots W0 [s] gs := by
 intro hup hsl hinj hsz hall
 have hpS : s < ops.size ∧ dstN ops s = none ∧ dstN ops ix = some x ∧ dstN ops iy = some y ∧ needsN ops 6 s ix = true ∧ needsN ops 6 s iy = true := by
  simp only [ownOK, Bool.and_eq_true, decide_eq_true_eq, beq_iff_eq] at hS
  exact ⟨hS.1.1.1.1.1, hS.1.1.1.1.2, hS.1.1.1.2, hS.1.1.2, hS.1.2, hS.2⟩
 obtain ⟨p1, p2, p3, p4, p5, p6⟩ := hpS
 have hfinS : ∀ (L : Nat → Bool) f w, ClosedL ops L → (∀ i d, dstN ops i = some d → L i = true → lkG gs i (f d) w) → (∀ k ∈ preOf ops s, L k = true) → FinF gs f w psS := by
  intro L f w hc hL hpre
  clear h hst
  induction psS with
  | nil => trivial
  | cons q psS ih =>
   simp only [stoDeps, List.all_cons, Bool.and_eq_true] at hpsS
   obtain ⟨⟨⟨h1, h2⟩, h4⟩, h3⟩ := hpsS
   have hj' : q.1 + q.2.2 + 1 = ops.size := by simpa using h1
   have h5 := hL q.1 q.2.1 (by simpa using h2) (needsN_out hc _ _ _ h4.1 hpre)
   unfold lkG at h5
   rw [if_pos (by omega), show gs.length - 1 - q.1 = q.2.2 by omega] at h5
   exact ⟨⟨f q.2.1, rfl, h5⟩, ih h3⟩
 refine region_inv (fun L a w => ClosedL ops L ∧ ∃ f w', a = { tmps := regT base slots f, defers := df } ∧ Below W0.heap.size W0 w' ∧ (∀ i d, dstN ops i = some d → L i = true → lkG gs i (f d) w') ∧ w = if L s = true then w'.setRow (blkOf (f x)) (f y).cells else w') hm hup
  ⟨(fun _ h => by cases h), fun k => base.getD k undef, W0.drew, by rw [regT_id], (Below.refl _ _).drew, fun _ _ _ h => (by cases h), by rw [if_neg (by simp)]⟩ ?_ ?_
 · rintro i hi L a w ⟨hc, f, w', rfl, hW, hL, rfl⟩ hLi hpre
   have hc' := closedL_next hc hpre
   by_cases his : i = s
   · subst his
     rw [if_neg (by rw [hLi]; simp)]
     refine hst f w' hW (hfinS L f w' hc hL hpre) _ ⟨hc', f, w', rfl, hW, fun j d e hj => ?_, by rw [if_pos (by simp)]⟩
     have hne : j ≠ i := fun e' => by rw [e', p2] at e; cases e
     exact hL j d e (by simpa [hne] using hj)
   · have hso : [s].contains i = false := by simpa using his
     obtain ⟨h1, h2⟩ := hall i (by omega) hso
     have hLs : (s == i || L s) = L s := by
      have : (s == i) = false := by simpa using fun e => his (Eq.symm e)
      rw [this]; rfl
     have hkeep : ∀ v w'', lkG gs i v w'' → Below w'.heap.size w' w'' → ∃ f1, ({ tmps := regT base slots f, defers := df : Act }.put (dstN ops i) v) = { tmps := regT base slots f1, defers := df } ∧ Below W0.heap.size W0 w'' ∧ (∀ j d, dstN ops j = some d → (j == i || L j) = true → lkG gs j (f1 d) w'') ∧ (L s = true → f1 x = f x ∧ f1 y = f y) := by
      intro v w'' hg hb
      have hW' := hW.trans (hb.mono hW.size)
      cases hdi : dstN ops i with
      | none =>
       refine ⟨f, rfl, hW', fun j d e hj => ?_, fun _ => ⟨rfl, rfl⟩⟩
       have hne : j ≠ i := fun e' => by rw [e', hdi] at e; cases e
       have hLj : L j = true := by simpa [hne] using hj
       have hjs : [s].contains j = false := by
        have : j ≠ s := fun e' => by rw [e', p2] at e; cases e
        simpa using this
       exact (hall j (by have := dstN_lt e; omega) hjs).1 _ _ _ (hL j d e hLj) hb
      | some di =>
       refine ⟨updF f di v, ?_, hW', fun j d e hj => ?_, fun hls => ?_⟩
       · show ({ tmps := (regT base slots f).setIfInBounds di v, defers := df } : Act) = _
         rw [regT_put _ _ _ _ _ (hsl i di hdi)]
       · unfold updF
         by_cases hne : j = i
         · subst hne
           rw [hdi] at e
           cases e
           rw [if_pos rfl]
           exact hg
         · have h3 : d ≠ di := fun e' => hne (hinj j i d e (e' ▸ hdi))
           rw [if_neg h3]
           have hLj : L j = true := by simpa [hne] using hj
           have hjs : [s].contains j = false := by
            have : j ≠ s := fun e' => by rw [e', p2] at e; cases e
            simpa using this
           exact (hall j (by have := dstN_lt e; omega) hjs).1 _ _ _ (hL j d e hLj) hb
       · have hix : L ix = true := needsN_out hc _ _ _ p5 (hc s hls)
         have hiy : L iy = true := needsN_out hc _ _ _ p6 (hc s hls)
         unfold updF
         constructor
         · rw [if_neg]
           intro e
           have := hinj ix i x p3 (e ▸ hdi)
           rw [this, hLi] at hix
           cases hix
         · rw [if_neg]
           intro e
           have := hinj iy i y p4 (e ▸ hdi)
           rw [this, hLi] at hiy
           cases hiy
     cases hls : L s with
     | false =>
      rw [if_neg (by simp)]
      refine h2 f w' hW (fun j hj d e => hL j d e (hpre j hj)) _ fun v w'' hg hb => ?_
      obtain ⟨f1, k2, k3, k4, _⟩ := hkeep v w'' hg hb
      exact ⟨hc', f1, w'', k2, k3, k4, by show w'' = if (s == i || L s) = true then w''.setRow (blkOf (f1 x)) (f1 y).cells else w''; rw [hLs, hls, if_neg (by simp)]⟩
     | true =>
      rw [if_pos rfl]
      have hf := List.all_eq_true.1 hfr i (List.mem_range.2 hi)
      simp only [Bool.or_eq_true] at hf
      have hcp : freeB ops i = true := by
       rcases hf with hf | hf | hf
       · exact absurd (by simpa using hf) his
       · exact hf
       · have := needsN_out hc _ _ _ hf (hc s hls)
         rw [hLi] at this
         cases this
      have h3 := h2 f w' hW (fun j hj d e => hL j d e (hpre j hj)) (fun a1 w1 => ∃ v, a1 = { tmps := regT base slots f, defers := df : Act }.put (dstN ops i) v ∧ lkG gs i v w1 ∧ Below w'.heap.size w' w1) (fun v w'' hg hb => ⟨v, rfl, hg, hb⟩)
      obtain ⟨v0, ⟨v, e1, e2, e3⟩, hgo⟩ := wpOp_free hcp h3
      refine hgo _ _ ?_
      rw [e1]
      obtain ⟨f1, k2, k3, k4, k5⟩ := hkeep v w' e2 e3
      obtain ⟨q1, q2⟩ := k5 hls
      exact ⟨hc', f1, w', k2, k3, k4, by show w'.setRow (blkOf (f x)) (f y).cells = if (s == i || L s) = true then w'.setRow (blkOf (f1 x)) (f1 y).cells else w'; rw [hLs, hls, if_pos rfl, q1, q2]⟩
 · rintro L a w ⟨hc, f, w', rfl, hW, hL, rfl⟩ hLall
   rw [if_pos (hLall _ p1)]
   exact h f w' hW (finF_of hl (fun j hj d e => hL j d e (hLall j hj)) hps)
theorem sto_own {i : Nat} {o : Oper} {f : Nat → Value} {w2 : World} {K : Act → World → Prop} (ty : TypeId) (x y : Nat) (b : Nat) (cells : Array Value) (t : TypeId) (old : Array Value) (ho : ops[i]? = some o) (hg : o.guard = none) (hd : o.dst = none) (hop : o.op = .store ty (.tmp x) (.tmp y))
 (hxs : slots.contains x = true) (hxz : decide (x < base.size) = true) (hx : f x = .pointer (some ⟨b, 0, none⟩)) (hys : slots.contains y = true) (hyz : decide (y < base.size) = true) (hy : f y = .agg cells) (hgr : w2.heap[b]? = some (.cells old t (0, 0))) (hi : (P.info? ty).map (·.size) = some cells.size) (hold : old.size = cells.size) (h1 : cells.all (·.oneCell') = true)
 (hK : K { tmps := regT base slots f, defers := df } (w2.setRow (blkOf (f x)) (f y).cells)) : wpOp P ops Q i K { tmps := regT base slots f, defers := df } w2 := by
 unfold wpOp
 rw [ho]
 simp only [wanted_none hg, if_true]
 have hx' : (regT base slots f).getD x undef = .pointer (some ⟨b, 0, none⟩) := (regT_in (by simpa using hxs) (of_decide_eq_true hxz)).trans hx
 have hy' : (regT base slots f).getD y undef = .agg cells := (regT_in (by simpa using hys) (of_decide_eq_true hyz)).trans hy
 refine .inl (wp_store_row ty (.tmp x) (.tmp y) hop b cells hx' hy' t old hgr hi hold h1 ?_)
 rw [hd]
 rw [hx, hy] at hK
 exact hK
end
end Go.Proofs.YtjlliohjeiclaaaGreatDoor
namespace Go.Proofs.YtjlliohjeiclaaaGreatDoor
open Go.RowKit St Pm
theorem num_11 (x : Int) (w : World) : Calls Tryz.prog 11 #[.int .i64 x] w fun e w' => e = .returned (.int .i64 x) ∧ w = w' := by
 go_enter Tryz.func11, Tryz.ntmps11
 go_wp2
 go_ret
 exact ⟨rfl, rfl⟩
def labA : ByteArray := ⟨#[97]⟩
def atV (g : Int) (x : ByteArray) : Ev := (⟨g, 0, labA, 1, 0⟩, x)
theorem cells_rowT {W : World} {b : Nat} {cs : List Value} {t : TypeId} {fr : Nat × Nat} (h : W.heap[b]? = some (.cells cs.toArray t fr)) : CellsAt W (some ⟨b, 0, none⟩) cs := by
 intro i hi
 refine ⟨b, 0, rfl, ?_⟩
 rw [Nat.zero_add, cell_of_row _ _ i _ _ _ h]
 simp [hi]
set_option maxRecDepth 100000 in
theorem at_11 (g : Int) (x : ByteArray) (w : World) : Calls Tryz.prog 22 #[.int .i64 g, .string x] w fun e w' => e = .returned (.agg #[.int .i64 g, .int .i64 0, .string labA, .int .i64 1, .int .i64 0, .string x]) ∧ Below w.heap.size w w' := by
 have X1 := Lib.hid (heap_alloc_new w (.cells #[.int .i64 0, .int .i64 0, .string ⟨#[]⟩, .int .i64 0, .int .i64 0, .string ⟨#[]⟩] 53))
 go_enter Tryz.func22, Tryz.ntmps22
 go_wp2_with (refine wpList_store_row rfl 53 (.tmp 4) (.tmp 10) rfl w.heap.size #[.int .i64 g, .int .i64 0, .string labA, .int .i64 1, .int .i64 0, .string x] rfl rfl 53 _ X1.out (by kernel_rfl) rfl (by simp [Value.oneCell']) ?_)
 have Y := setRow_heap (w.alloc (.cells #[.int .i64 0, .int .i64 0, .string ⟨#[]⟩, .int .i64 0, .int .i64 0, .string ⟨#[]⟩] 53)) w.heap.size _ #[.int .i64 g, .int .i64 0, .string labA, .int .i64 1, .int .i64 0, .string x] _ _ X1.out
 have q0 := cell_of_row _ _ 0 _ _ _ Y
 have q1 := cell_of_row _ _ 1 _ _ _ Y
 have q2 := cell_of_row _ _ 2 _ _ _ Y
 have q3 := cell_of_row _ _ 3 _ _ _ Y
 have q4 := cell_of_row _ _ 4 _ _ _ Y
 have q5 := cell_of_row _ _ 5 _ _ _ Y
 refine bodyPost_ret (v := .agg #[.int .i64 g, .int .i64 0, .string labA, .int .i64 1, .int .i64 0, .string x]) (by simp [results, Tryz.results22, go_sem, q0, q1, q2, q3, q4, q5]) rfl ?_
 exact ⟨rfl, below_setRow (below_new _ _) (Nat.le_refl _) _⟩
def tX : ByteArray := ⟨#[120]⟩
def tY : ByteArray := ⟨#[121]⟩
def tZ : ByteArray := ⟨#[122]⟩
theorem at_ok (g : Int) (x : ByteArray) (h1 : 1 ≤ g) (h2 : g ≤ 100) (hx : x.size ≤ 256) : okV (atV g x) = true := by
 refine okV_iff.2 ⟨Sv.ok_iff.2 ⟨h1, ?_, ?_, ?_, ?_, ?_, ?_, ?_, ?_⟩, hx⟩
 · show g ≤ _; omega
 · show (0 : Int) ≤ 0; omega
 · show (0 : Int) < 8; omega
 · show okLabel [97] = true; decide
 · show (1 : Int) ≤ 1; omega
 · show (1 : Int) ≤ _; omega
 · show (0 : Int) ≤ 0; omega
 · show (0 : Int) < 64; omega
theorem k_xy : klt tX tY = true := (klt_iff _ _).2 (by decide)
theorem ne_xy : tX ≠ tY := fun e => by have := k_xy; rw [e, klt_irrefl] at this; cases this
theorem lt_2x1y : ltT (atV 2 tX) (atV 1 tY) = true := by show (klt tX tY || _) = true; rw [k_xy]; rfl
theorem nlt_1y2x : ltT (atV 1 tY) (atV 2 tX) = false := by
 show (klt tY tX || (decide (tY = tX) && _)) = false
 rw [klt_asymm k_xy, decide_eq_false (fun e => ne_xy e.symm)]
 rfl
theorem lt_2x3x : ltT (atV 2 tX) (atV 3 tX) = true := by
 show (klt tX tX || (decide (tX = tX) && _)) = true
 rw [klt_irrefl, decide_eq_true rfl]
 decide
theorem nlt_3x2x : ltT (atV 3 tX) (atV 2 tX) = false := by
 show (klt tX tX || (decide (tX = tX) && _)) = false
 rw [klt_irrefl, decide_eq_true rfl]
 decide
theorem lt_3x1y : ltT (atV 3 tX) (atV 1 tY) = true := by show (klt tX tY || _) = true; rw [k_xy]; rfl
theorem k_set : setT [atV 2 tX, atV 1 tY] = [atV 2 tX, atV 1 tY] := by
 show insT (atV 1 tY) (insT (atV 2 tX) []) = _
 have e1 : insT (atV 2 tX) [] = [atV 2 tX] := rfl
 rw [e1]
 unfold insT
 rw [nlt_1y2x, lt_2x1y]
 rfl
theorem k_ins : insT (atV 3 tX) [atV 2 tX, atV 1 tY] = [atV 2 tX, atV 3 tX, atV 1 tY] := by
 unfold insT
 rw [nlt_3x2x, lt_2x3x]
 unfold insT
 rw [lt_3x1y]
 rfl
theorem ofX_at (g : Int) (x y : ByteArray) : ofX x (atV g y) = decide (y = x) := rfl
theorem k_may : mayV [atV 2 tX, atV 1 tY] = true := mayV_iff.2 ⟨fun x hx => by
 simp only [List.mem_cons, List.not_mem_nil, or_false] at hx
 rcases hx with rfl | rfl
 · exact at_ok _ _ (by omega) (by omega) (by decide)
 · exact at_ok _ _ (by omega) (by omega) (by decide), by simp [atV]⟩
theorem k_not : mayV [atV 1 tX, atV 1 tY] = false := by
 cases h : mayV [atV 1 tX, atV 1 tY] with
 | false => rfl
 | true => have := (mayV_iff.1 h).2; simp [atV] at this
theorem ne_zx : tX ≠ tZ := fun e => by have := (klt_iff tX tZ).2 (by decide); rw [e, klt_irrefl] at this; cases this
theorem ne_zy : tY ≠ tZ := fun e => by have := (klt_iff tY tZ).2 (by decide); rw [e, klt_irrefl] at this; cases this
theorem k_fx : [atV 2 tX, atV 3 tX, atV 1 tY].filter (ofX tX) = [atV 2 tX, atV 3 tX] := by
 rw [List.filter_cons_of_pos (by rw [ofX_at]; simp), List.filter_cons_of_pos (by rw [ofX_at]; simp), List.filter_cons_of_neg (by rw [ofX_at]; simp; exact fun e => ne_xy e.symm)]
 rfl
theorem k_nx : [atV 2 tX, atV 3 tX, atV 1 tY].filter (fun e => !ofX tX e) = [atV 1 tY] := by
 rw [List.filter_cons_of_neg (by rw [ofX_at]; simp), List.filter_cons_of_neg (by rw [ofX_at]; simp), List.filter_cons_of_pos (by rw [ofX_at]; simp; exact fun e => ne_xy e.symm)]
 rfl
theorem k_fz : [atV 2 tX, atV 1 tY].filter (ofX tZ) = [] := by
 rw [List.filter_cons_of_neg (by rw [ofX_at]; simp; exact ne_zx), List.filter_cons_of_neg (by rw [ofX_at]; simp; exact ne_zy)]
 rfl
theorem k_g1 : (grpT [atV 1 tY]).map (·.1) = [tY] := by rw [grpT]; simp [grpT, atV]
theorem k_g2 : (grpT [atV 2 tX, atV 1 tY]).map (·.1) = [tX, tY] := by
 have h : sameT (atV 2 tX) (atV 1 tY) = false := decide_eq_false (fun e => ne_xy e.symm)
 rw [grpT, List.dropWhile_cons_of_neg (by rw [h]; simp), List.map_cons, k_g1]
 rfl
theorem Tag.shown {l : List Ev} {t : Tr ByteArray} (h : Tag l t) : shownT t = l := by unfold shownT; rw [if_pos h.good, h.dec]
theorem Tag.keysT {l : List Ev} {t : Tr ByteArray} (h : Tag l t) : ∀ p ∈ items t, p.1.size ≤ 70368744177663 := by
 rw [h.it]
 intro p hp
 obtain ⟨x, hx, rfl⟩ := List.mem_map.1 hp
 have := tag_size (h.ok x hx)
 show (tagK x).size ≤ _
 omega
theorem of_tag (l : List Ev) (a : Option Addr) (n c : Nat) (w : World) (hl : CellsAt w a (elsV l)) (hn : n = l.length) (hb : n ≤ 100000) (hsz : ∀ e ∈ l, e.1.l.size ≤ 9223372036854775807) (hG : Glob w) :
 Calls Tryz.prog 9 #[.slice a n c] w fun e w' => ∃ (t : Tr ByteArray) (ce : Int), e = .returned (.tuple #[.agg #[.pointer (pa t)], .int .i64 ce]) ∧ AtS w' t ∧ Below w.heap.size w w' ∧ ((mayV l = true ∧ ce = 0 ∧ Tag (setT l) t) ∨ (mayV l = false ∧ ce = 2 ∧ t = .nil)) := by
 refine (ts_Of l a n c w hl hn hb hsz hG).mono ?_
 intro e w' h
 unfold SetOut at h
 by_cases hm : mayV l = true
 · rw [if_pos hm] at h
   obtain ⟨t, h1, h2, h3, _, h5⟩ := h
   exact ⟨t, 0, h1, h2, h5, .inl ⟨hm, rfl, h3⟩⟩
 · rw [if_neg hm] at h
   exact ⟨.nil, 2, h.1, trivial, h.2, .inr ⟨by simpa using hm, rfl, rfl⟩⟩
theorem ins_tag {l : List Ev} (tr : Tr ByteArray) (s : Sv) (x : ByteArray) (w : World) (h : AtS w tr) (hT : Tag l tr) (hz : l.length ≤ 100000) (hok : okV (s, x) = true) (hG : Glob w) :
 Calls Tryz.prog 21 #[.agg #[.pointer (pa tr)], .agg #[.int .i64 s.g, .int .i64 s.r, .string s.l, .int .i64 s.n, .int .i64 s.i], .string x] w fun e w' => ∃ t : Tr ByteArray, e = .returned (.tuple #[.agg #[.pointer (pa t)], .int .i64 0]) ∧ AtS w' t ∧ Tag (insT (s, x) l) t ∧ Below w.heap.size w w' := by
 refine (ts_Insert tr s x w h (by rw [hT.len]; exact hz) hT.keysT (by have := ok_lab (okV_iff.1 hok).1; show s.l.size ≤ _; have h2 : (s, x).1.l.size ≤ 12 := this; exact Nat.le_trans h2 (by omega)) hG).mono ?_
 intro e w' h
 unfold InsOut at h
 rw [if_pos ⟨hok, hT.good⟩] at h
 obtain ⟨t', h1, h2, h3, h4⟩ := h
 exact ⟨t', h2, h3, tag_put hT hok (h1.bal hT.bal).1 (h1.items hT.srt), h4⟩
theorem rem_tag {l : List Ev} (tr : Tr ByteArray) (x : ByteArray) (w : World) (h : AtS w tr) (hT : Tag l tr) (hz : l.length ≤ 100000) (hx : x.size ≤ 256) (hG : Glob w) :
 Calls Tryz.prog 23 #[.agg #[.pointer (pa tr)], .string x] w fun e w' => ∃ t : Tr ByteArray, e = .returned (.tuple #[.agg #[.pointer (pa t)], .int .i64 ((l.filter (ofX x)).length : Int), .int .i64 0]) ∧ AtS w' t ∧ Tag (l.filter fun e => !ofX x e) t ∧ ((l.filter (ofX x)) = [] → t = tr) ∧ Below w.heap.size w w' := by
 refine (ts_Remove tr x w h hT.bal hT.srt (by rw [hT.len]; exact hz) hT.keysT hG).mono ?_
 intro e w' h
 unfold RemOut at h
 rw [if_pos ⟨hx, hT.good⟩] at h
 obtain ⟨t', h1, h2, h3, h4, h5, h6⟩ := h
 rw [hT.tags x, List.length_map] at h1
 refine ⟨t', h1, h2, tag_del hT h3 h4, fun e => h5 (by rw [hT.tags x, e]; rfl), h6⟩
theorem txt_tag {l : List Ev} (tr : Tr ByteArray) (w : World) (h : AtS w tr) (hT : Tag l tr) (hz : l.length ≤ 100000) :
 Calls Tryz.prog 24 #[.agg #[.pointer (pa tr)]] w fun e w' => ∃ v, e = .returned (.tuple #[v, .int .i64 0]) ∧ Below w.heap.size w w' ∧ w'.ownsRow w.heap.size 9 1 v (grpT l).length (txV ((grpT l).map (·.1))) := by
 refine (ts_Texts tr w h (by rw [hT.len]; exact hz) hT.keysT).mono ?_
 rintro e w' ⟨v, c, h1, h2, h3, _⟩
 obtain ⟨rfl, h4⟩ := h3 hT.good
 rw [hT.shown] at h4
 exact ⟨v, h1, h2, h4⟩
theorem tags_tag {l : List Ev} (tr : Tr ByteArray) (x : ByteArray) (w : World) (h : AtS w tr) (hT : Tag l tr) (hz : l.length ≤ 100000) (hx : x.size ≤ 4294967280) (hG : Glob w) :
 Calls Tryz.prog 28 #[.agg #[.pointer (pa tr)], .string x] w fun e w' => ∃ v, e = .returned v ∧ Below w.heap.size w w' ∧ w'.ownsRow w.heap.size 43 5 v (l.filter (ofX x)).length (stsV ((l.filter (ofX x)).map (·.1))) := by
 refine (ts_Tags tr x w h hT.srt (by rw [hT.len]; exact hz) hT.keysT hx hG).mono ?_
 rintro e w' ⟨v, h1, h2, h3, _⟩
 have h4 := h3 hT.good
 rw [hT.tags x, List.length_map, List.map_map] at h4
 have e1 : (l.filter (ofX x)).map (tagS ∘ encT) = (l.filter (ofX x)).map (·.1) := List.map_congr_left fun y hy => by
  show (decT (encT y)).1 = y.1
  rw [(goodT_enc (hT.ok y (List.mem_filter.1 hy).1)).2]
 rw [e1] at h4
 exact ⟨v, h1, h2, h4⟩
theorem has_tag {l : List Ev} (tr : Tr ByteArray) (x : ByteArray) (w : World) (h : AtS w tr) (hT : Tag l tr) (hz : l.length ≤ 100000) (hx : x.size ≤ 4294967280) (hG : Glob w) :
 Calls Tryz.prog 27 #[.agg #[.pointer (pa tr)], .string x] w fun e w' => e = .returned (.bool (decide (0 < (l.filter (ofX x)).length))) ∧ Below w.heap.size w w' := by
 refine (ts_Has tr x w h hT.srt (by rw [hT.len]; exact hz) hT.keysT hx hG).mono ?_
 rintro e w' ⟨h1, h2⟩
 rw [hT.good, hT.tags x, List.length_map, Bool.true_and] at h1
 exact ⟨h1, h2⟩
end Go.Proofs.YtjlliohjeiclaaaGreatDoor
