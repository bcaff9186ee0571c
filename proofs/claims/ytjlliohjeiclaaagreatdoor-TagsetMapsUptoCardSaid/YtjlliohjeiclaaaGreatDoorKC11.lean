/- Words, contracts and walks that the proof stands on (TgE RelO TgN TgW TgX TgY). -/
import Derived.Test.YtjlliohjeiclaaaGreatDoorKC1
import Derived.Test.YtjlliohjeiclaaaGreatDoorKC10
import Derived.Test.YtjlliohjeiclaaaGreatDoorKC3
import Derived.Test.YtjlliohjeiclaaaGreatDoorKC4
import Derived.Test.YtjlliohjeiclaaaGreatDoorKC8
namespace Go.Proofs.YtjlliohjeiclaaaGreatDoor
open Go.RowKit St Pm
attribute [local go_sem] Oper.semAt_some
theorem txT : ElemT Tryz.prog 63 9 (.string ⟨#[]⟩) 1 16 := ElemT.mk Tryz.underlying63 (by kernel_rfl) (by simp [Value.cells])
theorem cells_kept {A B : World} {a : Option Addr} {vs : List Value} (h : CellsAt A a vs) (hc : ∀ (k : Nat) (c : Array Value) (t : TypeId) (fr : Nat × Nat), A.heap[k]? = some (Obj.cells c t fr) → B.heap[k]? = some (Obj.cells c t fr)) : CellsAt B a vs := by
 intro i hi
 obtain ⟨b, off, rfl, e⟩ := h i hi
 refine ⟨b, off, rfl, ?_⟩
 unfold World.cell? at e ⊢
 cases ho : A.heap[b]? with
 | none => simp [ho] at e
 | some o =>
  cases o with
  | cells c t fr =>
   have h2 := hc b c t fr ho
   simp only [ho] at e
   simp only [h2]
   exact e
  | _ => simp [ho] at e
def TeI (c B : Nat) (w : World) (pre : List GrX) (W : World) : Prop :=
 (∃ v, Boxed W c 63 v ∧ W.ownsRow B 9 1 v pre.length (txV (pre.map (·.t))) ∧ True) ∧ Below w.heap.size w W
theorem teI_own {c B : Nat} {w : World} {M : Nat} (hc : c < M) (hw : w.heap.size ≤ M) : OwnFrom M (TeI c B w) := by
 rintro pre A A' row ⟨h2, h4⟩ hg hr
 exact ⟨(holdsRow_own B c _ _ 1 (fun pre : List GrX => pre.length) (fun pre => txV (pre.map (·.t))) (fun _ _ => True)).from M pre A A' row h2 hg hr, ownFrom_below (β := Unit) (Nat.le_refl _) hw () A A' row h4 hg hr⟩
def TextsOut (tr : Tr ByteArray) (w : World) (e : Ending) (w' : World) : Prop :=
 ∃ v c, e = .returned (.tuple #[v, .int .i64 c]) ∧ Below w.heap.size w w' ∧ ((items tr).all goodT = true → c = 0 ∧ w'.ownsRow w.heap.size 9 1 v (grpT (shownT tr)).length (txV ((grpT (shownT tr)).map (·.1)))) ∧ ((items tr).all goodT = false → c = 2 ∧ v = .slice none 0 0)
set_option maxRecDepth 100000 in
set_option maxHeartbeats 8000000 in
theorem ts_Texts (tr : Tr ByteArray) (w : World) (h : AtS w tr) (hz : sz tr ≤ 100000) (hk : ∀ p ∈ items tr, p.1.size ≤ 70368744177663) :
 Calls Tryz.prog 24 #[.agg #[.pointer (pa tr)]] w (TextsOut tr w) := by
 have HT := Lib.hid h
 have HKK := Lib.hid hk
 have hLn : (grpT (shownT tr)).length ≤ 100000 := by
  have h1 := grp_len _ (shownT tr) (Nat.le_refl _)
  have h2 : (shownT tr).length ≤ 100000 := by
   unfold shownT
   split
   · rw [List.length_map, sz_items]; exact hz
   · exact Nat.zero_le _
  omega
 have O1 : Hid (∀ e w' v, (items tr).all goodT = true → e = .returned (.tuple #[v, .int .i64 0]) → Below w.heap.size w w' → w'.ownsRow w.heap.size 9 1 v (grpT (shownT tr)).length (txV ((grpT (shownT tr)).map (·.1))) → TextsOut tr w e w') := Lib.hid (fun e w' v h1 h2 h3 h4 => ⟨v, 0, h2, h3, fun _ => ⟨rfl, h4⟩, fun h => by rw [h1] at h; cases h⟩)
 have O2 : Hid (∀ e w', (items tr).all goodT = false → e = .returned (.tuple #[.slice none 0 0, .int .i64 2]) → Below w.heap.size w w' → TextsOut tr w e w') := Lib.hid (fun e w' h1 h2 h3 => ⟨_, 2, h2, h3, fun h => (by rw [h1] at h; cases h), fun _ => ⟨rfl, rfl⟩⟩)
 obtain ⟨g, hg⟩ : ∃ g, (items tr).all goodT = g := ⟨_, rfl⟩
 rw [hg] at O1 O2
 have GG := Lib.hid hg
 clear h hk hg
 obtain ⟨z, hz0⟩ : ∃ z, w.heap.size = z := ⟨_, rfl⟩
 refine (callsIn_wide (n := 6)).1 ?_
 refine callsIn_of_wp_marks Tryz.func24 rfl trivial ?_ rfl
 simp only [Tryz.ntmps24, List.size_toArray, List.length_cons, List.length_nil, Nat.reduceAdd, Nat.reduceSub, Array.replicate_succ, Array.replicate_zero, List.push_toArray, List.append_toArray, List.nil_append, List.cons_append]
 refine wpIn_wide.2 ?_
 have HC : Hid (Chain [w] w) := Lib.hid (Chain.one w)
 go_upto_region 1 with (fail)
 obtain ⟨y, hy⟩ : ∃ c, w.heap.size = c := ⟨_, rfl⟩
 try rw [hy]
 obtain ⟨w1, hw1⟩ : ∃ X, allocs w [.cells #[.pointer (pa tr)] 27] = X := ⟨_, rfl⟩
 rw [show w.alloc (.cells #[.pointer (pa tr)] 27) = w1 from hw1]
 have hb : Below w.heap.size w w1 := by rw [← hw1]; exact allocs_below _ _
 have HM : Hid (w1.heap[y]? = some (.cells #[.pointer (pa tr)] 27 (0, 0))) := Lib.hid (by have := allocs_get [.cells #[.pointer (pa tr)] 27] w 0 _ rfl; rw [hw1, hy] at this; exact this)
 have Sy : Hid (w.heap.size = y) := Lib.hid hy
 replace HC := Lib.hid (HC.out.push hb)
 clear hb hw1 hy
 obtain rfl : y = z := by rw [← Sy.out, hz0]
 have kM0 := cell_of_one HM.out
 go_wp2_with fail
 refine (ts_May tr _ (HT.out.below (HC.out.to w (by simp)) rfl) hz HKK.out).mono ?_
 rintro e w2 ⟨rfl, hb⟩
 clear kM0
 replace HC := Lib.hid (HC.out.push hb)
 clear hb
 rw [GG.out]
 cases g
 case false =>
  have BF := Lib.hid (HC.out.to w (by simp))
  go_wp2_with fail
  try rw [Exit.noGoto_ret]
  try show LeavesInM _ _ _ _ _ _ (marks []) _ _
  refine leaves_marks [] _ (by simp) (fun p hp => by cases hp) ?_
  intro W' e1 e2 e3 e4 e5
  have bW : Below w.heap.size w W' := ⟨e1.trans BF.out.os, e2.trans BF.out.tape, e3.trans BF.out.output, by rw [e4]; exact BF.out.size, fun k hk => (e5 k (by simp)).trans (BF.out.block k hk)⟩
  refine ⟨.tuple #[.slice none 0 0, .int .i64 2], by simp [results, Tryz.results24, go_sem], ?_⟩
  exact O2.out _ _ (by simp) rfl bW
 case true =>
 have M2Z : Hid (y < w2.heap.size) := Lib.hid (Array.getElem?_eq_some_iff.1 (boxStays HM.out (HC.out.to w1 (by simp)))).1
 go_upto_region 4 with (fail)
 obtain ⟨c, hc⟩ : ∃ c, w2.heap.size = c := ⟨_, rfl⟩
 try rw [hc]
 obtain ⟨w3, hw3⟩ : ∃ X, allocs w2 [.cells #[.slice none 0 0] 63] = X := ⟨_, rfl⟩
 rw [show w2.alloc (.cells #[.slice none 0 0] 63) = w3 from hw3]
 have hb : Below w2.heap.size w2 w3 := by rw [← hw3]; exact allocs_below _ _
 have HK : Hid (w3.heap[c]? = some (.cells #[.slice none 0 0] 63 (0, 0))) := Lib.hid (by have := allocs_get [.cells #[.slice none 0 0] 63] w2 0 _ rfl; rw [hw3, hc] at this; exact this)
 have Sc : Hid (w2.heap.size = c) := Lib.hid hc
 replace HC := Lib.hid (HC.out.push hb)
 clear hb hw3 hc
 have kM0 := cell_of_one (boxStays HM.out (HC.out.to w1 (by simp)))
 go_wp2_with fail
 refine (ts_All tr _).mono ?_
 rintro e w5 ⟨mb, rfl, hmb, hbm, hb⟩
 clear kM0
 replace HC := Lib.hid (HC.out.push hb)
 clear hb
 have hcy : y < c := by have := M2Z.out; have := Sc.out; omega
 have BW5 := Lib.hid (HC.out.to w (by simp))
 have hC5 := boxStays HK.out (HC.out.to w3 (by simp))
 have hT5 := HT.out.below (HC.out.to w (by simp)) rfl
 have hc5 : c < w5.heap.size := (Array.getElem?_eq_some_iff.1 hC5).1
 have HIter := ts_All1 5 (by omega) tr mb w5 (fun _ => False) (fun t => t = 9) (fun t h => by rw [h]; decide) hbm hT5 hz HKK.out (fun k h => h.elim)
 unfold GoesGrp at HIter
 obtain ⟨L, hL⟩ : ∃ L, grpT (shownT tr) = L := ⟨_, rfl⟩
 rw [hL] at HIter O1 hLn
 have r5 : TeI c w5.heap.size w [] w5 := ⟨⟨_, hC5, World.ownsRow_nil _ _ _ _, trivial⟩, BW5.out⟩
 have hw5 : w.heap.size ≤ w5.heap.size := BW5.out.size
 have OWN : OwnFrom w5.heap.size (TeI c w5.heap.size w) := teI_own (by omega) hw5
 have ST := Lib.hid txT
 clear hC5 hT5 hbm hmb HC
 go_wp2_with fail
 refine (wpIn_wide (n := 6)).1 ?_
 refine range_law2 (n := 6) rfl (enters_of Tryz.func68 (by kernel_rfl) rfl) HIter (by omega) KeepE.trans (fun W o o' _ _ => KeepE.put W _ o' (by omega) (fun k hk => hk.elim)) (fun x => rfl) (fun pre => ?hX) ?_ (TeI c w5.heap.size w) (fun _ _ _ => False) (fun xs V => xs.map GrX.pr = L ∧ TeI c w5.heap.size w xs V) OWN ?_ ?_ ?_ r5
  (fun pre q a' V => TeI c w5.heap.size w pre V ∧ (pre ++ [q]).map GrX.pr <+: L ∧ a' = { tmps := #[.agg #[.pointer (pa tr)], .pointer (some ⟨y, 0, none⟩), .slice none 0 0, .int .i64 0, .pointer (some ⟨c, 0, none⟩), .string q.t, .agg #[.pointer (pa tr)], .bool true, .bool false, .agg #[.pointer (pa tr)], .func (.func 68) #[] #[.pointer (some ⟨mb, 0, none⟩)], .string q.t, .slice q.a q.l.length q.c, undef, undef, undef, undef, undef], defers := [] }) ?_ ?assign ?body ?done ?stop
 case hX =>
  rintro x A A' row ⟨h1, h2⟩ hg hr
  exact ⟨h1, cells_kept h2 (fun k c t fr hk => heap_kept hg (fun r e => (hr r e).2) hk)⟩
 · rintro W1 _ xs A B ⟨_, rfl⟩ k o _ ho _; exact ho
 · rintro c xs A A' row h hg hr; exact h
 · rintro xs A A' row ⟨h1, h2⟩ hg hr
   exact ⟨h1, OWN xs A A' row h2 hg hr⟩
 · rintro W1 _ xs A B h ⟨h1, rfl⟩; exact ⟨h1, h⟩
 · rintro q a' pre A A' row ⟨h1, h2, h3⟩ hg hr
   exact ⟨OWN pre A A' row h1 hg hr, h2, h3⟩
 case assign =>
  rintro l pre q W K hi ⟨hx, _⟩ hsz hK
  have HI := Lib.hid hi
  clear hi
  simp only [encGr, List.zip_toArray, List.zip_cons_cons, List.zip_nil_right, List.foldl_toArray, List.foldl_cons, List.foldl_nil]
  gi_wp2
  exact hK _ _ ⟨Nat.le_refl _, fun _ _ _ h _ => h⟩ (KeepE.refl _) hsz ⟨HI.out, hx, rfl⟩
 case body =>
  rintro l pre q a' V ⟨⟨⟨u, h1, h2, _⟩, h9⟩, hp, rfl⟩ hsz
  have hpl : pre.length + 1 ≤ L.length := by have := hp.length_le; simpa using this
  have C9 : Hid (Boxed V c 63 u) := Lib.hid h1
  have R9 := Lib.hid h2
  have B9 := Lib.hid h9
  obtain ⟨pn, hpn⟩ : ∃ n, pre.length = n := ⟨_, rfl⟩
  have PN := Lib.hid hpn
  rw [hpn] at R9 hpl
  have k0 := cell_of_one C9.out
  obtain ⟨t, ls, qa, qc⟩ := q
  have SRC : Hid (Src Tryz.prog 1 63 (.slice (some ⟨V.heap.size, 0, none⟩) 1 1) 1 [.string t] (V.alloc (.cells #[.string t] 9))) := Lib.hid ((CellsAt.new V 9 (0, 0) [.string t]).srcN (size := 1) (n := 1) rfl (by simp [Value.oneCell']) Tryz.underlying63 1 (by decide))
  have HBS : Hid (w5.heap.size ≤ V.heap.size) := Lib.hid hsz
  clear HIter r5 OWN h1 h2 h9 hp hpn
  simp only
  gi_wp2_with (gi_at_builtin; go_must (refine wpListIn_app rfl _ _ 63 63 rfl w5.heap.size 9 _ 1 16 ST.out u pn _ rfl (R9.out.alloc _) _ 1 [.string t] rfl SRC.out (by omega) (by omega) (by have := HBS.out; simp; omega) ?_); go_must (intro v6 w6 hown hgr hbel _; obtain ⟨a6, cp6, hv6, _⟩ := own_slice hown; subst hv6; have c6 : Boxed w6 c 63 u := (C9.out.alloc _).kept hgr (Boxed.not_row C9.out (by decide) R9.out)); have kc6 := cell_of_one c6; have fc6 := frozen_of_row _ c 0 _ _ c6)
  have V6 : Hid (Boxed w6 c 63 u) := Lib.hid c6
  have OW6 := Lib.hid hown
  have GR := Lib.hid hgr
  have hcV : c < V.heap.size := by omega
  clear hown hgr hbel c6 kc6 fc6 k0
  have hne : some c ≠ (Value.slice a6 (pn + 1) cp6).ownBlock := Boxed.not_row V6.out (by decide) OW6.out
  have RK : RowKeep c u V (w6.setCell ⟨c, 0, none⟩ (.slice a6 (pn + 1) cp6)) := ⟨GR.out.os, GR.out.tape, GR.out.output, by have := GR.out.size; simp [World.setCell] at this ⊢; omega, fun k h1 h2 h3 =>
   (Below.heap_setCell _ _ _ _ (by simpa using h2)).trans ((GR.out.block k (by simp; omega) (fun e => h3 e.symm)).trans ((below_new _ _).block k h1))⟩
  have FIN := Lib.hid (show KeepsFrom w5.heap.size V (w6.setCell ⟨c, 0, none⟩ (.slice a6 (pn + 1) cp6)) ∧ KeepE (w5.heap.size + 2) (fun _ => False) (fun x => x = 9) V (w6.setCell ⟨c, 0, none⟩ (.slice a6 (pn + 1) cp6)) ∧ TeI c w5.heap.size w (pre ++ [GrX.mk t ls qa qc]) (w6.setCell ⟨c, 0, none⟩ (.slice a6 (pn + 1) cp6)) from
   ⟨RK.from C9.out R9.out _, RowKeep.keepE (t := 9) (u := u) RK R9.out (fun k hk => hk.elim) (fun k hk => hk.elim) (by omega),
    ⟨_, Boxed.set _ V6.out, by
     have e1 : txV ((pre ++ [GrX.mk t ls qa qc]).map (·.t)) = txV (pre.map (·.t)) ++ [.string t] := by simp [txV]
     rw [e1, List.length_append, List.length_singleton, PN.out]
     exact OW6.out.kept (grownBy_setCell' w6 c _) (.inr hne.symm), trivial⟩, B9.out.trans (RK.below (by omega) R9.out hw5 B9.out.size)⟩)
  clear RK hne
  gi_wp2
  exact FIN.out
 case done =>
  rintro D xs V hD ⟨hxs, ⟨u, h1, h2, _⟩, h9⟩ hK
  have HKD := Lib.hid hK
  obtain ⟨a6, cp6, hv6, _⟩ := own_slice h2
  subst hv6
  have B9 := Lib.hid h9
  have hlen : xs.length = L.length := by rw [← hxs, List.length_map]
  have htx : xs.map (·.t) = L.map (·.1) := by rw [← hxs, List.map_map]; rfl
  rw [hlen, htx] at h2
  rw [hlen] at h1
  have R9 := Lib.hid h2
  have k0 := cell_of_one h1
  obtain ⟨pn, hpn⟩ : ∃ n, L.length = n := ⟨_, rfl⟩
  rw [hpn] at R9 k0 O1
  clear HIter r5 OWN h1 h2 h9 hK hL hpn hxs hlen htx
  simp only [Exit.inBlock]
  go_wp2_with fail
  try rw [Exit.noGoto_ret]
  try show LeavesInM _ _ _ _ _ _ (marks [D]) _ _
  refine leaves_marks [D] _ (by simp) (fun p hp => ?_) ?_
  · obtain rfl : p = (D, .deferred (some [])) := by simpa [markF] using hp
    exact HKD.out
  · intro W' e1 e2 e3 e4 e5
    have bW : Below w.heap.size w W' := ⟨e1.trans B9.out.os, e2.trans B9.out.tape, e3.trans B9.out.output, by rw [e4]; exact B9.out.size, fun k hk => (e5 k (by simp; omega)).trans (B9.out.block k hk)⟩
    refine ⟨.tuple #[.slice a6 pn cp6, .int .i64 0], by simp [results, Tryz.results24, go_sem], ?_⟩
    exact O1.out _ _ _ (by simp) rfl bW (own_mono (own_cells R9.out (fun k c t fr hk => (e5 k (by simp; rintro rfl; rw [HKD.out] at hk; cases hk)).trans hk)) hw5)
 case stop =>
  rintro D c pre V hD hSp h hK
  exact absurd h id
end Go.Proofs.YtjlliohjeiclaaaGreatDoor
namespace Go.Proofs.YtjlliohjeiclaaaGreatDoor
open Go.RowKit
section
variable {P : Program} {ops : Array Oper} {Q : Exit → Act → World → Prop} {id : Nat} {base : Array Value} {df : List Deferred} {slots : List Nat} {W0 : World}
theorem ext_val (x : Value) (ix : Nat) : (∃ v, Instr.extract x ix = pure v) ∨ (∃ s, Instr.extract x ix = stuck s) := by
 unfold Instr.extract
 split
 · split
   · exact .inl ⟨_, rfl⟩
   · exact .inr ⟨_, rfl⟩
 · exact .inr ⟨_, rfl⟩
theorem wpOp_ext {i : Nat} {o : Oper} {t : Operand} {ix : Nat} (ho : ops[i]? = some o) (hg : o.guard = none) (hop : o.op = .extract t ix) {K : Act → World → Prop} {a : Act} {w : World} (h : wpOp P ops Q i K a w) :
 ∃ v, K (a.put (dstN ops i) v) w ∧ ∀ (K' : Act → World → Prop) (w2 : World), K' (a.put (dstN ops i) v) w2 → wpOp P ops Q i K' a w2 := by
 have hd : dstN ops i = o.dst := by unfold dstN; rw [ho]; rfl
 rw [hd]
 unfold wpOp at h ⊢
 rw [ho] at h ⊢
 simp only [wanted_none hg, if_true] at h ⊢
 rcases ext_val (a.eval t) ix with ⟨v, hv⟩ | ⟨s, hs⟩
 · have he : execOp a.eval o = pure (.value v) := by
    unfold execOp
    simp [hop, hv]
   refine ⟨v, ?_, fun K' w2 hK' => .inl ?_⟩
   · rcases h with h | ⟨h1, _⟩
     · unfold Oper.wp at h; rw [he] at h; exact h
     · unfold Oper.asks at h1
       rw [he] at h1
       have h2 : noRoomEvent ∈ (#[] : Array _) := h1.1
       cases (Array.not_mem_empty _ h2)
   · unfold Oper.wp; rw [he]; exact hK'
 · exfalso
   have he : execOp a.eval o = (stuck s : Sem Next) := by
    unfold execOp
    simp [hop, hs]
    rfl
   rcases h with h | ⟨h1, _⟩
   · unfold Oper.wp at h; rw [he] at h; exact h
   · unfold Oper.asks at h1
     rw [he] at h1
     have h2 : noRoomEvent ∈ (#[] : Array _) := h1.1
     cases (Array.not_mem_empty _ h2)
def freeB (ops : Array Oper) (i : Nat) : Bool := copyB ops i || match ops[i]? with
 | some o => o.guard.isNone && (match o.op with
  | .extract _ _ => true
  | _ => false)
 | none => false
theorem wpOp_free {i : Nat} (hf : freeB ops i = true) {K : Act → World → Prop} {a : Act} {w : World} (h : wpOp P ops Q i K a w) :
 ∃ v, K (a.put (dstN ops i) v) w ∧ ∀ (K' : Act → World → Prop) (w2 : World), K' (a.put (dstN ops i) v) w2 → wpOp P ops Q i K' a w2 := by
 unfold freeB at hf
 rw [Bool.or_eq_true] at hf
 rcases hf with hf | hf
 · obtain ⟨x, hx⟩ := wpOp_copy (P := P) (Q := Q) hf
   exact ⟨a.eval x, (hx _ _ _).1 h, fun K' w2 hK' => (hx _ _ _).2 hK'⟩
 · cases ho : ops[i]? with
   | none => rw [ho] at hf; cases hf
   | some o =>
    rw [ho] at hf
    simp only [Bool.and_eq_true] at hf
    have hg : o.guard = none := by simpa using hf.1
    have h2 := hf.2
    split at h2
    · rename_i t ix hop
      exact wpOp_ext ho hg hop h
    · cases h2
def blkOf : Value → Nat
 | .pointer (some a) => a.block
 | _ => 0
def ownOK (ops : Array Oper) (s x ix y iy : Nat) : Bool := decide (s < ops.size) && (dstN ops s == none) && (dstN ops ix == some x) && (dstN ops iy == some y) && needsN ops 6 s ix && needsN ops 6 s iy
def freeOK1 (ops : Array Oper) (s : Nat) : Bool := (List.range ops.size).all fun i => i == s || (freeB ops i || needsN ops 6 s i)
theorem setRow_one {w : World} {b : Nat} {u v : Value} {t : TypeId} {fr : Nat × Nat} (h : w.heap[b]? = some (.cells #[u] t fr)) : w.setRow b #[v] = w.setCell ⟨b, 0, none⟩ v := by
 unfold World.setRow World.setCell
 simp only [World.mk.injEq, true_and, and_true]
 apply Array.ext_getElem?
 intro k
 simp only [Array.getElem?_modify]
 by_cases e : b = k
 · subst e
   simp [h]
 · simp [e]
theorem relG_own {gs : List Pr} (s x ix y iy : Nat) (ps psS : List (Nat × Nat × Nat)) (hm : P.follows .mixedOrders = true) (hl : gs.length = ops.size) (hps : finOK ops ps = true) (hpsS : stoDeps ops [s] psS = true)
 (hS : ownOK ops s x ix y iy = true) (hfr : freeOK1 ops s = true)
 (hst : ∀ f w, Below W0.heap.size W0 w → FinF gs f w psS → ∀ K : Act → World → Prop, K { tmps := regT base slots f, defers := df } (w.setRow (blkOf (f x)) (f y).cells) → wpOp P ops Q s K { tmps := regT base slots f, defers := df } w)
 (h : ∀ f w, Below W0.heap.size W0 w → FinF gs f w ps → Q .normal { tmps := regT base slots f, defers := df } (w.setRow (blkOf (f x)) (f y).cells)) : RelG P ops Q id base df slots W0 [s] gs := by
 intro hup hsl hinj hsz hall
 have hpS : s < ops.size ∧ dstN ops s = none ∧ dstN ops ix = some x ∧ dstN ops iy = some y ∧ needsN ops 6 s ix = true ∧ needsN ops 6 s iy = true := by
  simp only [ownOK, Bool.and_eq_true, decide_eq_true_eq, beq_iff_eq] at hS
  exact ⟨hS.1.1.1.1.1, hS.1.1.1.1.2, hS.1.1.1.2, hS.1.1.2, hS.1.2, hS.2⟩
 obtain ⟨p1, p2, p3, p4, p5, p6⟩ := hpS
 have hfinS : ∀ (L : Nat → Bool) f w, ClosedL ops L → (∀ i d, dstN ops i = some d → L i = true → lkG gs i (f d) w) → (∀ k ∈ preOf ops s, L k = true) → FinF gs f w psS := by
  intro L f w hc hL hpre
  clear h hst
  induction psS with
  | nil => trivial
  | cons q psS ih =>
   simp only [stoDeps, List.all_cons, Bool.and_eq_true] at hpsS
   obtain ⟨⟨⟨h1, h2⟩, h4⟩, h3⟩ := hpsS
   have hj' : q.1 + q.2.2 + 1 = ops.size := by simpa using h1
   have h5 := hL q.1 q.2.1 (by simpa using h2) (needsN_out hc _ _ _ h4.1 hpre)
   unfold lkG at h5
   rw [if_pos (by omega), show gs.length - 1 - q.1 = q.2.2 by omega] at h5
   exact ⟨⟨f q.2.1, rfl, h5⟩, ih h3⟩
 refine region_inv (fun L a w => ClosedL ops L ∧ ∃ f w', a = { tmps := regT base slots f, defers := df } ∧ Below W0.heap.size W0 w' ∧ (∀ i d, dstN ops i = some d → L i = true → lkG gs i (f d) w') ∧ w = if L s = true then w'.setRow (blkOf (f x)) (f y).cells else w') hm hup
  ⟨(fun _ h => by cases h), fun k => base.getD k undef, W0.drew, by rw [regT_id], (Below.refl _ _).drew, fun _ _ _ h => (by cases h), by rw [if_neg (by simp)]⟩ ?_ ?_
 · rintro i hi L a w ⟨hc, f, w', rfl, hW, hL, rfl⟩ hLi hpre
   have hc' := closedL_next hc hpre
   by_cases his : i = s
   · subst his
     rw [if_neg (by rw [hLi]; simp)]
     refine hst f w' hW (hfinS L f w' hc hL hpre) _ ⟨hc', f, w', rfl, hW, fun j d e hj => ?_, by rw [if_pos (by simp)]⟩
     have hne : j ≠ i := fun e' => by rw [e', p2] at e; cases e
     exact hL j d e (by simpa [hne] using hj)
   · have hso : [s].contains i = false := by simpa using his
     obtain ⟨h1, h2⟩ := hall i (by omega) hso
     have hLs : (s == i || L s) = L s := by
      have : (s == i) = false := by simpa using fun e => his (Eq.symm e)
      rw [this]; rfl
     have hkeep : ∀ v w'', lkG gs i v w'' → Below w'.heap.size w' w'' → ∃ f1, ({ tmps := regT base slots f, defers := df : Act }.put (dstN ops i) v) = { tmps := regT base slots f1, defers := df } ∧ Below W0.heap.size W0 w'' ∧ (∀ j d, dstN ops j = some d → (j == i || L j) = true → lkG gs j (f1 d) w'') ∧ (L s = true → f1 x = f x ∧ f1 y = f y) := by
      intro v w'' hg hb
      have hW' := hW.trans (hb.mono hW.size)
      cases hdi : dstN ops i with
      | none =>
       refine ⟨f, rfl, hW', fun j d e hj => ?_, fun _ => ⟨rfl, rfl⟩⟩
       have hne : j ≠ i := fun e' => by rw [e', hdi] at e; cases e
       have hLj : L j = true := by simpa [hne] using hj
       have hjs : [s].contains j = false := by
        have : j ≠ s := fun e' => by rw [e', p2] at e; cases e
        simpa using this
       exact (hall j (by have := dstN_lt e; omega) hjs).1 _ _ _ (hL j d e hLj) hb
      | some di =>
       refine ⟨updF f di v, ?_, hW', fun j d e hj => ?_, fun hls => ?_⟩
       · show ({ tmps := (regT base slots f).setIfInBounds di v, defers := df } : Act) = _
         rw [regT_put _ _ _ _ _ (hsl i di hdi)]
       · unfold updF
         by_cases hne : j = i
         · subst hne
           rw [hdi] at e
           cases e
           rw [if_pos rfl]
           exact hg
         · have h3 : d ≠ di := fun e' => hne (hinj j i d e (e' ▸ hdi))
           rw [if_neg h3]
           have hLj : L j = true := by simpa [hne] using hj
           have hjs : [s].contains j = false := by
            have : j ≠ s := fun e' => by rw [e', p2] at e; cases e
            simpa using this
           exact (hall j (by have := dstN_lt e; omega) hjs).1 _ _ _ (hL j d e hLj) hb
       · have hix : L ix = true := needsN_out hc _ _ _ p5 (hc s hls)
         have hiy : L iy = true := needsN_out hc _ _ _ p6 (hc s hls)
         unfold updF
         constructor
         · rw [if_neg]
           intro e
           have := hinj ix i x p3 (e ▸ hdi)
           rw [this, hLi] at hix
           cases hix
         · rw [if_neg]
           intro e
           have := hinj iy i y p4 (e ▸ hdi)
           rw [this, hLi] at hiy
           cases hiy
     cases hls : L s with
     | false =>
      rw [if_neg (by simp)]
      refine h2 f w' hW (fun j hj d e => hL j d e (hpre j hj)) _ fun v w'' hg hb => ?_
      obtain ⟨f1, k2, k3, k4, _⟩ := hkeep v w'' hg hb
      exact ⟨hc', f1, w'', k2, k3, k4, by show w'' = if (s == i || L s) = true then w''.setRow (blkOf (f1 x)) (f1 y).cells else w''; rw [hLs, hls, if_neg (by simp)]⟩
     | true =>
      rw [if_pos rfl]
      have hf := List.all_eq_true.1 hfr i (List.mem_range.2 hi)
      simp only [Bool.or_eq_true] at hf
      have hcp : freeB ops i = true := by
       rcases hf with hf | hf | hf
       · exact absurd (by simpa using hf) his
       · exact hf
       · have := needsN_out hc _ _ _ hf (hc s hls)
         rw [hLi] at this
         cases this
      have h3 := h2 f w' hW (fun j hj d e => hL j d e (hpre j hj)) (fun a1 w1 => ∃ v, a1 = { tmps := regT base slots f, defers := df : Act }.put (dstN ops i) v ∧ lkG gs i v w1 ∧ Below w'.heap.size w' w1) (fun v w'' hg hb => ⟨v, rfl, hg, hb⟩)
      obtain ⟨v0, ⟨v, e1, e2, e3⟩, hgo⟩ := wpOp_free hcp h3
      refine hgo _ _ ?_
      rw [e1]
      obtain ⟨f1, k2, k3, k4, k5⟩ := hkeep v w' e2 e3
      obtain ⟨q1, q2⟩ := k5 hls
      exact ⟨hc', f1, w', k2, k3, k4, by show w'.setRow (blkOf (f x)) (f y).cells = if (s == i || L s) = true then w'.setRow (blkOf (f1 x)) (f1 y).cells else w'; rw [hLs, hls, if_pos rfl, q1, q2]⟩
 · rintro L a w ⟨hc, f, w', rfl, hW, hL, rfl⟩ hLall
   rw [if_pos (hLall _ p1)]
   exact h f w' hW (finF_of hl (fun j hj d e => hL j d e (hLall j hj)) hps)
theorem sto_own {i : Nat} {o : Oper} {f : Nat → Value} {w2 : World} {K : Act → World → Prop} (ty : TypeId) (x y : Nat) (b : Nat) (cells : Array Value) (t : TypeId) (old : Array Value) (ho : ops[i]? = some o) (hg : o.guard = none) (hd : o.dst = none) (hop : o.op = .store ty (.tmp x) (.tmp y))
 (hxs : slots.contains x = true) (hxz : decide (x < base.size) = true) (hx : f x = .pointer (some ⟨b, 0, none⟩)) (hys : slots.contains y = true) (hyz : decide (y < base.size) = true) (hy : f y = .agg cells) (hgr : w2.heap[b]? = some (.cells old t (0, 0))) (hi : (P.info? ty).map (·.size) = some cells.size) (hold : old.size = cells.size) (h1 : cells.all (·.oneCell') = true)
 (hK : K { tmps := regT base slots f, defers := df } (w2.setRow (blkOf (f x)) (f y).cells)) : wpOp P ops Q i K { tmps := regT base slots f, defers := df } w2 := by
 unfold wpOp
 rw [ho]
 simp only [wanted_none hg, if_true]
 have hx' : (regT base slots f).getD x undef = .pointer (some ⟨b, 0, none⟩) := (regT_in (by simpa using hxs) (of_decide_eq_true hxz)).trans hx
 have hy' : (regT base slots f).getD y undef = .agg cells := (regT_in (by simpa using hys) (of_decide_eq_true hyz)).trans hy
 refine .inl (wp_store_row ty (.tmp x) (.tmp y) hop b cells hx' hy' t old hgr hi hold h1 ?_)
 rw [hd]
 rw [hx, hy] at hK
 exact hK
end
end Go.Proofs.YtjlliohjeiclaaaGreatDoor
namespace Go.Proofs.YtjlliohjeiclaaaGreatDoor
open Go.RowKit St Pm
theorem num_11 (x : Int) (w : World) : Calls Tryz.prog 11 #[.int .i64 x] w fun e w' => e = .returned (.int .i64 x) ∧ w = w' := by
 go_enter Tryz.func11, Tryz.ntmps11
 go_wp2
 go_ret
 exact ⟨rfl, rfl⟩
def labA : ByteArray := ⟨#[97]⟩
def atV (g : Int) (x : ByteArray) : Ev := (⟨g, 0, labA, 1, 0⟩, x)
theorem cells_rowT {W : World} {b : Nat} {cs : List Value} {t : TypeId} {fr : Nat × Nat} (h : W.heap[b]? = some (.cells cs.toArray t fr)) : CellsAt W (some ⟨b, 0, none⟩) cs := by
 intro i hi
 refine ⟨b, 0, rfl, ?_⟩
 rw [Nat.zero_add, cell_of_row _ _ i _ _ _ h]
 simp [hi]
set_option maxRecDepth 100000 in
theorem at_11 (g : Int) (x : ByteArray) (w : World) : Calls Tryz.prog 22 #[.int .i64 g, .string x] w fun e w' => e = .returned (.agg #[.int .i64 g, .int .i64 0, .string labA, .int .i64 1, .int .i64 0, .string x]) ∧ Below w.heap.size w w' := by
 have X1 := Lib.hid (heap_alloc_new w (.cells #[.int .i64 0, .int .i64 0, .string ⟨#[]⟩, .int .i64 0, .int .i64 0, .string ⟨#[]⟩] 53))
 go_enter Tryz.func22, Tryz.ntmps22
 go_wp2_with (refine wpList_store_row rfl 53 (.tmp 4) (.tmp 10) rfl w.heap.size #[.int .i64 g, .int .i64 0, .string labA, .int .i64 1, .int .i64 0, .string x] rfl rfl 53 _ X1.out (by kernel_rfl) rfl (by simp [Value.oneCell']) ?_)
 have Y := setRow_heap (w.alloc (.cells #[.int .i64 0, .int .i64 0, .string ⟨#[]⟩, .int .i64 0, .int .i64 0, .string ⟨#[]⟩] 53)) w.heap.size _ #[.int .i64 g, .int .i64 0, .string labA, .int .i64 1, .int .i64 0, .string x] _ _ X1.out
 have q0 := cell_of_row _ _ 0 _ _ _ Y
 have q1 := cell_of_row _ _ 1 _ _ _ Y
 have q2 := cell_of_row _ _ 2 _ _ _ Y
 have q3 := cell_of_row _ _ 3 _ _ _ Y
 have q4 := cell_of_row _ _ 4 _ _ _ Y
 have q5 := cell_of_row _ _ 5 _ _ _ Y
 refine bodyPost_ret (v := .agg #[.int .i64 g, .int .i64 0, .string labA, .int .i64 1, .int .i64 0, .string x]) (by simp [results, Tryz.results22, go_sem, q0, q1, q2, q3, q4, q5]) rfl ?_
 exact ⟨rfl, below_setRow (below_new _ _) (Nat.le_refl _) _⟩
def tX : ByteArray := ⟨#[120]⟩
def tY : ByteArray := ⟨#[121]⟩
def tZ : ByteArray := ⟨#[122]⟩
theorem at_ok (g : Int) (x : ByteArray) (h1 : 1 ≤ g) (h2 : g ≤ 100) (hx : x.size ≤ 256) : okV (atV g x) = true := by
 refine okV_iff.2 ⟨Sv.ok_iff.2 ⟨h1, ?_, ?_, ?_, ?_, ?_, ?_, ?_, ?_⟩, hx⟩
 · show g ≤ _; omega
 · show (0 : Int) ≤ 0; omega
 · show (0 : Int) < 8; omega
 · show okLabel [97] = true; decide
 · show (1 : Int) ≤ 1; omega
 · show (1 : Int) ≤ _; omega
 · show (0 : Int) ≤ 0; omega
 · show (0 : Int) < 64; omega
theorem k_xy : klt tX tY = true := (klt_iff _ _).2 (by decide)
theorem ne_xy : tX ≠ tY := fun e => by have := k_xy; rw [e, klt_irrefl] at this; cases this
theorem lt_2x1y : ltT (atV 2 tX) (atV 1 tY) = true := by show (klt tX tY || _) = true; rw [k_xy]; rfl
theorem nlt_1y2x : ltT (atV 1 tY) (atV 2 tX) = false := by
 show (klt tY tX || (decide (tY = tX) && _)) = false
 rw [klt_asymm k_xy, decide_eq_false (fun e => ne_xy e.symm)]
 rfl
theorem lt_2x3x : ltT (atV 2 tX) (atV 3 tX) = true := by
 show (klt tX tX || (decide (tX = tX) && _)) = true
 rw [klt_irrefl, decide_eq_true rfl]
 decide
theorem nlt_3x2x : ltT (atV 3 tX) (atV 2 tX) = false := by
 show (klt tX tX || (decide (tX = tX) && _)) = false
 rw [klt_irrefl, decide_eq_true rfl]
 decide
theorem lt_3x1y : ltT (atV 3 tX) (atV 1 tY) = true := by show (klt tX tY || _) = true; rw [k_xy]; rfl
theorem k_set : setT [atV 2 tX, atV 1 tY] = [atV 2 tX, atV 1 tY] := by
 show insT (atV 1 tY) (insT (atV 2 tX) []) = _
 have e1 : insT (atV 2 tX) [] = [atV 2 tX] := rfl
 rw [e1]
 unfold insT
 rw [nlt_1y2x, lt_2x1y]
 rfl
theorem k_ins : insT (atV 3 tX) [atV 2 tX, atV 1 tY] = [atV 2 tX, atV 3 tX, atV 1 tY] := by
 unfold insT
 rw [nlt_3x2x, lt_2x3x]
 unfold insT
 rw [lt_3x1y]
 rfl
theorem ofX_at (g : Int) (x y : ByteArray) : ofX x (atV g y) = decide (y = x) := rfl
theorem k_may : mayV [atV 2 tX, atV 1 tY] = true := mayV_iff.2 ⟨fun x hx => by
 simp only [List.mem_cons, List.not_mem_nil, or_false] at hx
 rcases hx with rfl | rfl
 · exact at_ok _ _ (by omega) (by omega) (by decide)
 · exact at_ok _ _ (by omega) (by omega) (by decide), by simp [atV]⟩
theorem k_not : mayV [atV 1 tX, atV 1 tY] = false := by
 cases h : mayV [atV 1 tX, atV 1 tY] with
 | false => rfl
 | true => have := (mayV_iff.1 h).2; simp [atV] at this
theorem ne_zx : tX ≠ tZ := fun e => by have := (klt_iff tX tZ).2 (by decide); rw [e, klt_irrefl] at this; cases this
theorem ne_zy : tY ≠ tZ := fun e => by have := (klt_iff tY tZ).2 (by decide); rw [e, klt_irrefl] at this; cases this
theorem k_fx : [atV 2 tX, atV 3 tX, atV 1 tY].filter (ofX tX) = [atV 2 tX, atV 3 tX] := by
 rw [List.filter_cons_of_pos (by rw [ofX_at]; simp), List.filter_cons_of_pos (by rw [ofX_at]; simp), List.filter_cons_of_neg (by rw [ofX_at]; simp; exact fun e => ne_xy e.symm)]
 rfl
theorem k_nx : [atV 2 tX, atV 3 tX, atV 1 tY].filter (fun e => !ofX tX e) = [atV 1 tY] := by
 rw [List.filter_cons_of_neg (by rw [ofX_at]; simp), List.filter_cons_of_neg (by rw [ofX_at]; simp), List.filter_cons_of_pos (by rw [ofX_at]; simp; exact fun e => ne_xy e.symm)]
 rfl
theorem k_fz : [atV 2 tX, atV 1 tY].filter (ofX tZ) = [] := by
 rw [List.filter_cons_of_neg (by rw [ofX_at]; simp; exact ne_zx), List.filter_cons_of_neg (by rw [ofX_at]; simp; exact ne_zy)]
 rfl
theorem k_g1 : (grpT [atV 1 tY]).map (·.1) = [tY] := by rw [grpT]; simp [grpT, atV]
theorem k_g2 : (grpT [atV 2 tX, atV 1 tY]).map (·.1) = [tX, tY] := by
 have h : sameT (atV 2 tX) (atV 1 tY) = false := decide_eq_false (fun e => ne_xy e.symm)
 rw [grpT, List.dropWhile_cons_of_neg (by rw [h]; simp), List.map_cons, k_g1]
 rfl
theorem Tag.shown {l : List Ev} {t : Tr ByteArray} (h : Tag l t) : shownT t = l := by unfold shownT; rw [if_pos h.good, h.dec]
theorem Tag.keysT {l : List Ev} {t : Tr ByteArray} (h : Tag l t) : ∀ p ∈ items t, p.1.size ≤ 70368744177663 := by
 rw [h.it]
 intro p hp
 obtain ⟨x, hx, rfl⟩ := List.mem_map.1 hp
 have := tag_size (h.ok x hx)
 show (tagK x).size ≤ _
 omega
theorem of_tag (l : List Ev) (a : Option Addr) (n c : Nat) (w : World) (hl : CellsAt w a (elsV l)) (hn : n = l.length) (hb : n ≤ 100000) (hsz : ∀ e ∈ l, e.1.l.size ≤ 9223372036854775807) (hG : Glob w) :
 Calls Tryz.prog 9 #[.slice a n c] w fun e w' => ∃ (t : Tr ByteArray) (ce : Int), e = .returned (.tuple #[.agg #[.pointer (pa t)], .int .i64 ce]) ∧ AtS w' t ∧ Below w.heap.size w w' ∧ ((mayV l = true ∧ ce = 0 ∧ Tag (setT l) t) ∨ (mayV l = false ∧ ce = 2 ∧ t = .nil)) := by
 refine (ts_Of l a n c w hl hn hb hsz hG).mono ?_
 intro e w' h
 unfold SetOut at h
 by_cases hm : mayV l = true
 · rw [if_pos hm] at h
   obtain ⟨t, h1, h2, h3, _, h5⟩ := h
   exact ⟨t, 0, h1, h2, h5, .inl ⟨hm, rfl, h3⟩⟩
 · rw [if_neg hm] at h
   exact ⟨.nil, 2, h.1, trivial, h.2, .inr ⟨by simpa using hm, rfl, rfl⟩⟩
theorem ins_tag {l : List Ev} (tr : Tr ByteArray) (s : Sv) (x : ByteArray) (w : World) (h : AtS w tr) (hT : Tag l tr) (hz : l.length ≤ 100000) (hok : okV (s, x) = true) (hG : Glob w) :
 Calls Tryz.prog 21 #[.agg #[.pointer (pa tr)], .agg #[.int .i64 s.g, .int .i64 s.r, .string s.l, .int .i64 s.n, .int .i64 s.i], .string x] w fun e w' => ∃ t : Tr ByteArray, e = .returned (.tuple #[.agg #[.pointer (pa t)], .int .i64 0]) ∧ AtS w' t ∧ Tag (insT (s, x) l) t ∧ Below w.heap.size w w' := by
 refine (ts_Insert tr s x w h (by rw [hT.len]; exact hz) hT.keysT (by have := ok_lab (okV_iff.1 hok).1; show s.l.size ≤ _; have h2 : (s, x).1.l.size ≤ 12 := this; exact Nat.le_trans h2 (by omega)) hG).mono ?_
 intro e w' h
 unfold InsOut at h
 rw [if_pos ⟨hok, hT.good⟩] at h
 obtain ⟨t', h1, h2, h3, h4⟩ := h
 exact ⟨t', h2, h3, tag_put hT hok (h1.bal hT.bal).1 (h1.items hT.srt), h4⟩
theorem rem_tag {l : List Ev} (tr : Tr ByteArray) (x : ByteArray) (w : World) (h : AtS w tr) (hT : Tag l tr) (hz : l.length ≤ 100000) (hx : x.size ≤ 256) (hG : Glob w) :
 Calls Tryz.prog 23 #[.agg #[.pointer (pa tr)], .string x] w fun e w' => ∃ t : Tr ByteArray, e = .returned (.tuple #[.agg #[.pointer (pa t)], .int .i64 ((l.filter (ofX x)).length : Int), .int .i64 0]) ∧ AtS w' t ∧ Tag (l.filter fun e => !ofX x e) t ∧ ((l.filter (ofX x)) = [] → t = tr) ∧ Below w.heap.size w w' := by
 refine (ts_Remove tr x w h hT.bal hT.srt (by rw [hT.len]; exact hz) hT.keysT hG).mono ?_
 intro e w' h
 unfold RemOut at h
 rw [if_pos ⟨hx, hT.good⟩] at h
 obtain ⟨t', h1, h2, h3, h4, h5, h6⟩ := h
 rw [hT.tags x, List.length_map] at h1
 refine ⟨t', h1, h2, tag_del hT h3 h4, fun e => h5 (by rw [hT.tags x, e]; rfl), h6⟩
theorem txt_tag {l : List Ev} (tr : Tr ByteArray) (w : World) (h : AtS w tr) (hT : Tag l tr) (hz : l.length ≤ 100000) :
 Calls Tryz.prog 24 #[.agg #[.pointer (pa tr)]] w fun e w' => ∃ v, e = .returned (.tuple #[v, .int .i64 0]) ∧ Below w.heap.size w w' ∧ w'.ownsRow w.heap.size 9 1 v (grpT l).length (txV ((grpT l).map (·.1))) := by
 refine (ts_Texts tr w h (by rw [hT.len]; exact hz) hT.keysT).mono ?_
 rintro e w' ⟨v, c, h1, h2, h3, _⟩
 obtain ⟨rfl, h4⟩ := h3 hT.good
 rw [hT.shown] at h4
 exact ⟨v, h1, h2, h4⟩
theorem tags_tag {l : List Ev} (tr : Tr ByteArray) (x : ByteArray) (w : World) (h : AtS w tr) (hT : Tag l tr) (hz : l.length ≤ 100000) (hx : x.size ≤ 4294967280) (hG : Glob w) :
 Calls Tryz.prog 28 #[.agg #[.pointer (pa tr)], .string x] w fun e w' => ∃ v, e = .returned v ∧ Below w.heap.size w w' ∧ w'.ownsRow w.heap.size 43 5 v (l.filter (ofX x)).length (stsV ((l.filter (ofX x)).map (·.1))) := by
 refine (ts_Tags tr x w h hT.srt (by rw [hT.len]; exact hz) hT.keysT hx hG).mono ?_
 rintro e w' ⟨v, h1, h2, h3, _⟩
 have h4 := h3 hT.good
 rw [hT.tags x, List.length_map, List.map_map] at h4
 have e1 : (l.filter (ofX x)).map (tagS ∘ encT) = (l.filter (ofX x)).map (·.1) := List.map_congr_left fun y hy => by
  show (decT (encT y)).1 = y.1
  rw [(goodT_enc (hT.ok y (List.mem_filter.1 hy).1)).2]
 rw [e1] at h4
 exact ⟨v, h1, h2, h4⟩
theorem has_tag {l : List Ev} (tr : Tr ByteArray) (x : ByteArray) (w : World) (h : AtS w tr) (hT : Tag l tr) (hz : l.length ≤ 100000) (hx : x.size ≤ 4294967280) (hG : Glob w) :
 Calls Tryz.prog 27 #[.agg #[.pointer (pa tr)], .string x] w fun e w' => e = .returned (.bool (decide (0 < (l.filter (ofX x)).length))) ∧ Below w.heap.size w w' := by
 refine (ts_Has tr x w h hT.srt (by rw [hT.len]; exact hz) hT.keysT hx hG).mono ?_
 rintro e w' ⟨h1, h2⟩
 rw [hT.good, hT.tags x, List.length_map, Bool.true_and] at h1
 exact ⟨h1, h2⟩
end Go.Proofs.YtjlliohjeiclaaaGreatDoor
namespace Go.Proofs.YtjlliohjeiclaaaGreatDoor
open Go.RowKit St Pm
theorem fld_st11 (g r n i : Int) (l x : ByteArray) (w : World) : (Instr.field 53 (.agg #[.int .i64 g, .int .i64 r, .string l, .int .i64 n, .int .i64 i, .string x]) 0).run Tryz.prog w = .ok (.agg #[.int .i64 g, .int .i64 r, .string l, .int .i64 n, .int .i64 i]) w := by
 kernel_rfl
theorem mp_oneT (p : Option Addr) : (#[.pointer p] : Array Value).all (·.oneCell') = true := by simp [Value.oneCell']
theorem k_labT (L : List Ev) (h : ∀ x ∈ L, x.1.l = labA) : ∀ e ∈ L, e.1.l.size ≤ 9223372036854775807 := fun e he => by rw [h e he]; decide
set_option maxRecDepth 100000 in
set_option maxHeartbeats 4000000 in
theorem known_11 (w : World) (hG : Glob w) : Calls Tryz.prog 8 #[] w fun e w' => e = .returned (.bool true) ∧ Below w.heap.size w w' := by
 have HG := Lib.hid hG
 clear hG
 have HC : Hid (Chain [w] w) := Lib.hid (Chain.one w)
 go_enter Tryz.func8, Tryz.ntmps8
 go_wp2_with fail
 refine (at_11 2 ⟨#[120]⟩ _).mono ?_
 rintro e w1 ⟨rfl, hb⟩
 replace HC := Lib.hid (HC.out.push hb)
 clear hb
 go_wp2_with fail
 refine (at_11 1 ⟨#[121]⟩ _).mono ?_
 rintro e w2 ⟨rfl, hb⟩
 replace HC := Lib.hid (HC.out.push hb)
 clear hb
 go_wp2_with fail
 obtain ⟨c3, hc3⟩ : ∃ c, w2.heap.size = c := ⟨_, rfl⟩
 try rw [hc3]
 obtain ⟨w3, hw3⟩ : ∃ X, allocs w2 [.cells #[.int .i64 2, .int .i64 0, .string labA, .int .i64 1, .int .i64 0, .string ⟨#[120]⟩, .int .i64 1, .int .i64 0, .string labA, .int .i64 1, .int .i64 0, .string ⟨#[121]⟩] 53] = X := ⟨_, rfl⟩
 rw [show w2.alloc (.cells #[.int .i64 2, .int .i64 0, .string labA, .int .i64 1, .int .i64 0, .string ⟨#[120]⟩, .int .i64 1, .int .i64 0, .string labA, .int .i64 1, .int .i64 0, .string ⟨#[121]⟩] 53) = w3 from hw3]
 have hb : Below w2.heap.size w2 w3 := by rw [← hw3]; exact allocs_below _ _
 have HE : Hid (w3.heap[c3]? = some (.cells #[.int .i64 2, .int .i64 0, .string labA, .int .i64 1, .int .i64 0, .string ⟨#[120]⟩, .int .i64 1, .int .i64 0, .string labA, .int .i64 1, .int .i64 0, .string ⟨#[121]⟩] 53 (0, 0))) := Lib.hid (by have := allocs_get [.cells #[.int .i64 2, .int .i64 0, .string labA, .int .i64 1, .int .i64 0, .string ⟨#[120]⟩, .int .i64 1, .int .i64 0, .string labA, .int .i64 1, .int .i64 0, .string ⟨#[121]⟩] 53] w2 0 _ rfl; rw [hw3, hc3] at this; exact this)
 have Sc3 : Hid (w2.heap.size = c3) := Lib.hid hc3
 replace HC := Lib.hid (HC.out.push hb)
 clear hb hw3 hc3
 refine (of_tag [atV 2 tX, atV 1 tY] (some ⟨c3, 0, none⟩) 2 2 _ (cells_rowT HE.out) rfl (by omega) (k_labT _ (by simp [atV])) (HG.out.below (HC.out.to w (by simp)))).mono ?_
 rintro e w4 ⟨t, ce, rfl, ht, hb, hP⟩
 replace HC := Lib.hid (HC.out.push hb)
 clear hb
 have T4 := Lib.hid ht
 obtain ⟨rfl, hr⟩ : ce = 0 ∧ Tag [atV 2 tX, atV 1 tY] t := by
  rcases hP with ⟨_, h1, h2⟩ | ⟨h, _⟩
  · rw [k_set] at h2; exact ⟨h1, h2⟩
  · rw [k_may] at h; cases h
 have R4 := Lib.hid hr
 clear hP hr ht
 go_upto_region 2 with (fail)
 obtain ⟨c5, hc5⟩ : ∃ c, w4.heap.size = c := ⟨_, rfl⟩
 try rw [hc5]
 obtain ⟨w5, hw5⟩ : ∃ X, allocs w4 [.cells #[.pointer (pa t)] 27] = X := ⟨_, rfl⟩
 rw [show w4.alloc (.cells #[.pointer (pa t)] 27) = w5 from hw5]
 have hb : Below w4.heap.size w4 w5 := by rw [← hw5]; exact allocs_below _ _
 have HM : Hid (w5.heap[c5]? = some (.cells #[.pointer (pa t)] 27 (0, 0))) := Lib.hid (by have := allocs_get [.cells #[.pointer (pa t)] 27] w4 0 _ rfl; rw [hw5, hc5] at this; exact this)
 have Sc5 : Hid (w4.heap.size = c5) := Lib.hid hc5
 replace HC := Lib.hid (HC.out.push hb)
 clear hb hw5 hc5
 go_wp2_with fail
 refine (at_11 1 ⟨#[120]⟩ _).mono ?_
 rintro e w6 ⟨rfl, hb⟩
 replace HC := Lib.hid (HC.out.push hb)
 clear hb
 go_wp2_with fail
 refine (at_11 1 ⟨#[121]⟩ _).mono ?_
 rintro e w7 ⟨rfl, hb⟩
 replace HC := Lib.hid (HC.out.push hb)
 clear hb
 go_wp2_with fail
 obtain ⟨c8, hc8⟩ : ∃ c, w7.heap.size = c := ⟨_, rfl⟩
 try rw [hc8]
 obtain ⟨w8, hw8⟩ : ∃ X, allocs w7 [.cells #[.int .i64 1, .int .i64 0, .string labA, .int .i64 1, .int .i64 0, .string ⟨#[120]⟩, .int .i64 1, .int .i64 0, .string labA, .int .i64 1, .int .i64 0, .string ⟨#[121]⟩] 53] = X := ⟨_, rfl⟩
 rw [show w7.alloc (.cells #[.int .i64 1, .int .i64 0, .string labA, .int .i64 1, .int .i64 0, .string ⟨#[120]⟩, .int .i64 1, .int .i64 0, .string labA, .int .i64 1, .int .i64 0, .string ⟨#[121]⟩] 53) = w8 from hw8]
 have hb : Below w7.heap.size w7 w8 := by rw [← hw8]; exact allocs_below _ _
 have HF : Hid (w8.heap[c8]? = some (.cells #[.int .i64 1, .int .i64 0, .string labA, .int .i64 1, .int .i64 0, .string ⟨#[120]⟩, .int .i64 1, .int .i64 0, .string labA, .int .i64 1, .int .i64 0, .string ⟨#[121]⟩] 53 (0, 0))) := Lib.hid (by have := allocs_get [.cells #[.int .i64 1, .int .i64 0, .string labA, .int .i64 1, .int .i64 0, .string ⟨#[120]⟩, .int .i64 1, .int .i64 0, .string labA, .int .i64 1, .int .i64 0, .string ⟨#[121]⟩] 53] w7 0 _ rfl; rw [hw8, hc8] at this; exact this)
 have Sc8 : Hid (w7.heap.size = c8) := Lib.hid hc8
 replace HC := Lib.hid (HC.out.push hb)
 clear hb hw8 hc8
 refine (of_tag [atV 1 tX, atV 1 tY] (some ⟨c8, 0, none⟩) 2 2 _ (cells_rowT HF.out) rfl (by omega) (k_labT _ (by simp [atV])) (HG.out.below (HC.out.to w (by simp)))).mono ?_
 rintro e w9 ⟨t2, ce, rfl, _, hb, hP⟩
 replace HC := Lib.hid (HC.out.push hb)
 clear hb
 obtain ⟨rfl, rfl⟩ : ce = 2 ∧ t2 = .nil := by
  rcases hP with ⟨h, _⟩ | ⟨_, h1, h2⟩
  · rw [k_not] at h; cases h
  · exact ⟨h1, h2⟩
 clear hP
 rw [show pa (Tr.nil : Tr ByteArray) = none from rfl]
 go_upto_region 3 with (fail)
 obtain ⟨c10, hc10⟩ : ∃ c, w9.heap.size = c := ⟨_, rfl⟩
 try rw [hc10]
 obtain ⟨w10, hw10⟩ : ∃ X, allocs w9 [.cells #[.pointer none] 27] = X := ⟨_, rfl⟩
 rw [show w9.alloc (.cells #[.pointer none] 27) = w10 from hw10]
 have hb : Below w9.heap.size w9 w10 := by rw [← hw10]; exact allocs_below _ _
 have Sc10 : Hid (w9.heap.size = c10) := Lib.hid hc10
 replace HC := Lib.hid (HC.out.push hb)
 clear hb hw10 hc10
 have M10 := Lib.hid (boxStays HM.out (HC.out.to w5 (by simp)))
 have T10 := Lib.hid (T4.out.below (HC.out.to w4 (by simp)) rfl)
 have G10 := Lib.hid (HG.out.below (HC.out.to w (by simp)))
 have INS : Hid (∀ w1, Below w10.heap.size w10 w1 → Calls Tryz.prog 21 #[.agg #[.pointer (pa t)], .agg #[.int .i64 3, .int .i64 0, .string labA, .int .i64 1, .int .i64 0], .string ⟨#[120]⟩] w1 fun e w' => ∃ m : Tr ByteArray, e = .returned (.tuple #[.agg #[.pointer (pa m)], .int .i64 0]) ∧ AtS w' m ∧ Tag [atV 2 tX, atV 3 tX, atV 1 tY] m ∧ Below w1.heap.size w1 w') := Lib.hid (fun w1 hB => by
  have h := ins_tag t (atV 3 tX).1 tX w1 (T10.out.below hB rfl) R4.out (by simp) (at_ok 3 tX (by omega) (by omega) (by decide)) (G10.out.below hB)
  have e1 : ((atV 3 tX).1, tX) = atV 3 tX := rfl
  rw [e1, k_ins] at h
  exact h)
 clear T10 G10
 refine relG_start (slots := [29, 30, 31, 32, 28, 33, 34, 5, 6]) (so := [8]) (by kernel_rfl) (by kernel_rfl) (by rfl) ?_
 refine relG_pure (i := 0) (o := ⟨some 29, _, _, _, _, _⟩) (v := ?v1) [] [1] rfl rfl (by kernel_rfl) (by kernel_rfl) (fun t w1 hB hf hbf => ?y1) ?n1
 case y1 =>
  simp only [BasF] at hbf
  clear hf
  obtain ⟨⟨b1, k1⟩, _⟩ := hbf
  have m0 := cell_of_one (boxStays M10.out hB)
  refine Or.inl ⟨wanted_none rfl, ?_⟩
  rintro _ rfl
  go_simp <;> with_reducible rfl
 refine relG_call (i := 1) (o := ⟨some 30, _, _, _, _, _⟩) ((fun v _ => v = .agg #[.int .i64 3, .int .i64 0, .string labA, .int .i64 1, .int .i64 0, .string ⟨#[]⟩])) [] [] rfl rfl (by kernel_rfl) (by kernel_rfl) ((fun _ _ _ h _ => h)) ?_ ?_
 · intro t w1 hB hf hbf K hK
   clear hf
   clear hbf
   have m0 := cell_of_one (boxStays M10.out hB)
   refine ⟨wanted_none rfl, ?_⟩
   go_simp
   refine (at_11 3 ⟨#[]⟩ w1).mono ?_
   rintro e w2 ⟨rfl, hb⟩
   exact hK.out _ w2 (rfl) hb
 refine relG_pure (i := 2) (o := ⟨some 31, _, _, _, _, _⟩) (v := ?v2) [(1, 30, 0)] [] rfl rfl (by kernel_rfl) (by kernel_rfl) (fun t w1 hB hf hbf => ?y2) ?n2
 case y2 =>
  simp only [DepF, List.getD_cons_zero] at hf
  obtain ⟨⟨_, ⟨e30, i30⟩, rfl⟩, _⟩ := hf
  clear hbf
  have m0 := cell_of_one (boxStays M10.out hB)
  have fd := fld_st11 3 0 1 0 labA ⟨#[]⟩
  refine Or.inl ⟨wanted_none rfl, ?_⟩
  rintro _ rfl
  go_simp <;> with_reducible rfl
 refine relG_call (i := 3) (o := ⟨some 32, _, _, _, _, _⟩) ((fun v w' => ∃ m : Tr ByteArray, v = .tuple #[.agg #[.pointer (pa m)], .int .i64 0] ∧ AtS w' m ∧ Tag [atV 2 tX, atV 3 tX, atV 1 tY] m)) [(0, 29, 2), (2, 31, 0)] [] rfl rfl (by kernel_rfl) (by kernel_rfl) ((fun v w' w'' h hb => by obtain ⟨m, e1, e2, e3⟩ := h; exact ⟨m, e1, e2.below hb rfl, e3⟩)) ?_ ?_
 · intro t w1 hB hf hbf K hK
   simp only [DepF, List.getD_cons_zero, List.getD_cons_succ] at hf
   obtain ⟨⟨_, ⟨e29, i29⟩, rfl⟩, ⟨_, ⟨e31, i31⟩, rfl⟩, _⟩ := hf
   clear hbf
   have m0 := cell_of_one (boxStays M10.out hB)
   refine ⟨wanted_none rfl, ?_⟩
   go_simp
   refine (INS.out w1 hB).mono ?_
   rintro e w2 ⟨m, rfl, hm, hP, hb⟩
   exact hK.out _ w2 ((⟨m, rfl, hm, hP⟩)) hb
 refine relG_call (i := 4) (o := ⟨some 28, _, _, _, _, _⟩) ((fun v w' => ∃ m : Tr ByteArray, v = .tuple #[.agg #[.pointer (pa m)], .int .i64 0] ∧ AtS w' m ∧ Tag [atV 2 tX, atV 3 tX, atV 1 tY] m)) [(3, 32, 0)] [] rfl rfl (by kernel_rfl) (by kernel_rfl) ((fun v w' w'' h hb => by obtain ⟨m, e1, e2, e3⟩ := h; exact ⟨m, e1, e2.below hb rfl, e3⟩)) ?_ ?_
 · intro t w1 hB hf hbf K hK
   simp only [DepF, List.getD_cons_zero] at hf
   obtain ⟨⟨_, ⟨e32, i32⟩, ⟨m, rfl, hm, hmr⟩⟩, _⟩ := hf
   clear hbf
   have m0 := cell_of_one (boxStays M10.out hB)
   refine ⟨wanted_none rfl, ?_⟩
   go_simp
   exact hK.out _ _ (⟨m, rfl, hm, hmr⟩) (Below.refl _ _)
 refine relG_call (i := 5) (o := ⟨some 33, _, _, _, _, _⟩) ((fun v w' => ∃ m : Tr ByteArray, v = .agg #[.pointer (pa m)] ∧ AtS w' m ∧ Tag [atV 2 tX, atV 3 tX, atV 1 tY] m)) [(4, 28, 0)] [] rfl rfl (by kernel_rfl) (by kernel_rfl) ((fun v w' w'' h hb => by obtain ⟨m, e1, e2, e3⟩ := h; exact ⟨m, e1, e2.below hb rfl, e3⟩)) ?_ ?_
 · intro t w1 hB hf hbf K hK
   simp only [DepF, List.getD_cons_zero] at hf
   obtain ⟨⟨_, ⟨e28, i28⟩, ⟨m, rfl, hm, hmr⟩⟩, _⟩ := hf
   clear hbf
   have m0 := cell_of_one (boxStays M10.out hB)
   refine ⟨wanted_none rfl, ?_⟩
   go_simp
   exact hK.out _ _ (⟨m, rfl, hm, hmr⟩) (Below.refl _ _)
 refine relG_pure (i := 6) (o := ⟨some 34, _, _, _, _, _⟩) (v := ?v3) [(4, 28, 1)] [] rfl rfl (by kernel_rfl) (by kernel_rfl) (fun t w1 hB hf hbf => ?y3) ?n3
 case y3 =>
  simp only [DepF, List.getD_cons_zero, List.getD_cons_succ] at hf
  obtain ⟨⟨_, ⟨e28, i28⟩, ⟨m, rfl, hm, hmr⟩⟩, _⟩ := hf
  clear hbf
  have m0 := cell_of_one (boxStays M10.out hB)
  refine Or.inl ⟨wanted_none rfl, ?_⟩
  rintro _ rfl
  go_simp <;> with_reducible rfl
 refine relG_call (i := 7) (o := ⟨some 5, _, _, _, _, _⟩) ((fun v w' => ∃ b, v = .pointer (some ⟨b, 0, none⟩) ∧ w10.heap.size ≤ b ∧ w'.heap[b]? = some (.cells #[.pointer none] 27 (0, 0)))) [] [] rfl rfl (by kernel_rfl) (by kernel_rfl) ((fun v w' w'' h hb => by obtain ⟨b, e1, e2, e3⟩ := h; exact ⟨b, e1, e2, boxStays e3 hb⟩)) ?_ ?_
 · intro t w1 hB hf hbf K hK
   clear hf
   clear hbf
   have m0 := cell_of_one (boxStays M10.out hB)
   refine ⟨wanted_none rfl, ?_⟩
   go_simp
   exact hK.out _ _ (⟨_, rfl, hB.size, heap_alloc_new _ _⟩) (below_new _ _)
 refine relG_skip 8 rfl (by rfl) ?_ (by kernel_rfl)
 refine relG_pure (i := 9) (o := ⟨some 6, _, _, _, _, _⟩) (v := ?v4) [(6, 34, 2)] [] rfl rfl (by kernel_rfl) (by kernel_rfl) (fun t w1 hB hf hbf => ?y4) ?n4
 case y4 =>
  simp only [DepF, List.getD_cons_zero, List.getD_cons_succ] at hf
  obtain ⟨⟨_, ⟨e34, i34⟩, rfl⟩, _⟩ := hf
  clear hbf
  have m0 := cell_of_one (boxStays M10.out hB)
  refine Or.inl ⟨wanted_none rfl, ?_⟩
  rintro _ rfl
  go_simp <;> with_reducible rfl
 refine relG_own 8 5 7 33 5 [(0, 29, 9), (1, 30, 8), (2, 31, 7), (3, 32, 6), (4, 28, 5), (5, 33, 4), (6, 34, 3), (7, 5, 2), (9, 6, 0)] [(0, 29, 9), (1, 30, 8), (2, 31, 7), (3, 32, 6), (4, 28, 5), (5, 33, 4), (7, 5, 2)] (by kernel_rfl) rfl (by kernel_rfl) (by kernel_rfl) (by kernel_rfl) (by kernel_rfl) ?_ (fun f wE hB hf => ?_)
 · intro f w1 hB hf K hK
   simp only [FinF, List.getD_cons_zero, List.getD_cons_succ] at hf
   obtain ⟨⟨_, e29, rfl⟩, ⟨_, e30, rfl⟩, ⟨_, e31, rfl⟩, ⟨_, e32, ⟨m, rfl, hm, hmr⟩⟩, ⟨_, e28, ⟨m, rfl, hm, hmr⟩⟩, ⟨_, e33, ⟨n, rfl, hn, hnr⟩⟩, ⟨_, e5, ⟨bb, rfl, hbb, hbr⟩⟩, _⟩ := hf
   have m0 := cell_of_one (boxStays M10.out hB)
   refine sto_own (i := 8) 27 5 33 bb (#[.pointer (pa n)]) _ _ rfl rfl rfl rfl (by rfl) (by rfl) e5 (by rfl) (by rfl) e33 (hbr) (by kernel_rfl) rfl (mp_oneT _) hK
 simp only [FinF, List.getD_cons_zero, List.getD_cons_succ] at hf
 obtain ⟨⟨_, e29, rfl⟩, ⟨_, e30, rfl⟩, ⟨_, e31, rfl⟩, ⟨_, e32, ⟨m, rfl, hm, hmr⟩⟩, ⟨_, e28, ⟨m, rfl, hm, hmr⟩⟩, ⟨_, e33, ⟨n, rfl, hn, hnr⟩⟩, ⟨_, e34, rfl⟩, ⟨_, e5, ⟨bb, rfl, hbb, hbr⟩⟩, ⟨_, e6, rfl⟩, _⟩ := hf
 simp only [blkOf, Value.cells, regT, List.foldl_cons, List.foldl_nil, List.setIfInBounds_toArray, List.set_cons_zero, List.set_cons_succ, e29, e30, e31, e32, e28, e33, e34, e5, e6]
 clear e29 e30 e31 e32 e28 e33 e34 e5 e6
 rw [setRow_one hbr]
 have N7 := Lib.hid hnr
 have hn8 := hn.setBox hbr (by decide) 0 (.pointer (pa n))
 have hN8 := Boxed.set (t := 27) (.pointer (pa n)) hbr
 have hb8 := hB.setCell (p := ⟨bb, 0, none⟩) hbb (.pointer (pa n))
 have QA := Lib.hid hn8
 have QB := Lib.hid hN8
 have QC := Lib.hid hb8
 clear hn8 hN8 hb8 hB hn hnr hm hmr hbb hbr
 go_upto_region 4 with (fail)
 generalize wE.setCell ⟨bb, 0, none⟩ (.pointer (pa n)) = w11 at *
 have hb := QC.out
 have HN : Hid (w11.heap[bb]? = some (.cells #[.pointer (pa n)] 27 (0, 0))) := Lib.hid QB.out
 replace HC := Lib.hid (HC.out.push hb)
 clear hb
 have kN0 := cell_of_one HN.out
 go_wp2_with fail
 refine (rem_tag n tX _ QA.out N7.out (by simp) (by decide) (HG.out.below (HC.out.to w (by simp)))).mono ?_
 rintro e w12 ⟨o, rfl, ho, hor, _, hb⟩
 clear kN0
 replace HC := Lib.hid (HC.out.push hb)
 clear hb
 rw [k_fx]
 rw [k_nx] at hor
 have T12 := Lib.hid ho
 have R12 := Lib.hid hor
 clear ho hor
 try simp only [List.length_cons, List.length_nil, Nat.zero_add, Nat.reduceAdd]
 go_upto_region 5 with (fail)
 obtain ⟨c13, hc13⟩ : ∃ c, w12.heap.size = c := ⟨_, rfl⟩
 try rw [hc13]
 obtain ⟨w13, hw13⟩ : ∃ X, allocs w12 [.cells #[.pointer (pa o)] 27] = X := ⟨_, rfl⟩
 rw [show w12.alloc (.cells #[.pointer (pa o)] 27) = w13 from hw13]
 have hb : Below w12.heap.size w12 w13 := by rw [← hw13]; exact allocs_below _ _
 have HO : Hid (w13.heap[c13]? = some (.cells #[.pointer (pa o)] 27 (0, 0))) := Lib.hid (by have := allocs_get [.cells #[.pointer (pa o)] 27] w12 0 _ rfl; rw [hw13, hc13] at this; exact this)
 have Sc13 : Hid (w12.heap.size = c13) := Lib.hid hc13
 replace HC := Lib.hid (HC.out.push hb)
 clear hb hw13 hc13
 have kO0 := cell_of_one HO.out
 go_wp2_with fail
 refine (txt_tag o _ (T12.out.below (HC.out.to w12 (by simp)) rfl) R12.out (by simp)).mono ?_
 rintro e w14 ⟨vt, rfl, hb, hown⟩
 clear kO0
 replace HC := Lib.hid (HC.out.push hb)
 clear hb
 rw [k_g1] at hown
 have hl1 : (grpT [atV 1 tY]).length = 1 := by have := congrArg List.length k_g1; simpa using this
 rw [hl1] at hown
 obtain ⟨at14, ct14, rfl, _⟩ := own_slice hown
 have X14 : Hid (CellsAt w14 at14 (txV [tY])) := Lib.hid (CellsAt.ownN hown)
 clear hown hl1
 go_upto_region 6 with (fail)
 have kM0 := cell_of_one (boxStays HM.out (HC.out.to w5 (by simp)))
 go_wp2_with fail
 refine (txt_tag t _ (T4.out.below (HC.out.to w4 (by simp)) rfl) R4.out (by simp)).mono ?_
 rintro e w15 ⟨vt, rfl, hb, hown⟩
 clear kM0
 replace HC := Lib.hid (HC.out.push hb)
 clear hb
 rw [k_g2] at hown
 have hl2 : (grpT [atV 2 tX, atV 1 tY]).length = 2 := by have := congrArg List.length k_g2; simpa using this
 rw [hl2] at hown
 obtain ⟨at15, ct15, rfl, _⟩ := own_slice hown
 have X15 : Hid (CellsAt w15 at15 (txV [tX, tY])) := Lib.hid (CellsAt.ownN hown)
 clear hown hl2
 go_wp2_with fail
 refine (num_11 0 _).mono ?_
 rintro e _ ⟨rfl, rfl⟩
 go_wp2_with fail
 refine (num_11 0 _).mono ?_
 rintro e _ ⟨rfl, rfl⟩
 go_wp2_with fail
 refine (num_11 0 _).mono ?_
 rintro e _ ⟨rfl, rfl⟩
 go_wp2_with fail
 refine (num_11 0 _).mono ?_
 rintro e _ ⟨rfl, rfl⟩
 go_wp2_with fail
 refine (num_11 0 _).mono ?_
 rintro e _ ⟨rfl, rfl⟩
 go_wp2_with fail
 refine (num_11 2 _).mono ?_
 rintro e _ ⟨rfl, rfl⟩
 have kN0 := cell_of_one (boxStays HN.out (HC.out.to w11 (by simp)))
 go_wp2_with fail
 refine (tags_tag n tX _ (QA.out.below (HC.out.to w11 (by simp)) rfl) N7.out (by simp) (by decide) (HG.out.below (HC.out.to w (by simp)))).mono ?_
 rintro e w16 ⟨vt, rfl, hb, hown⟩
 clear kN0
 replace HC := Lib.hid (HC.out.push hb)
 clear hb
 rw [k_fx] at hown
 obtain ⟨a16, c16, rfl, _⟩ := own_slice hown
 clear hown
 try simp only [List.length_cons, List.length_nil, Nat.zero_add, Nat.reduceAdd]
 have kM0 := cell_of_one (boxStays HM.out (HC.out.to w5 (by simp)))
 go_wp2_with fail
 refine (has_tag t tZ _ (T4.out.below (HC.out.to w4 (by simp)) rfl) R4.out (by simp) (by decide) (HG.out.below (HC.out.to w (by simp)))).mono ?_
 rintro e w17 ⟨rfl, hb⟩
 clear kM0
 replace HC := Lib.hid (HC.out.push hb)
 clear hb
 rw [k_fz]
 have hd0 : decide (0 < ([] : List Ev).length) = false := rfl
 rw [hd0]
 go_wp2_with fail
 obtain ⟨c18, hc18⟩ : ∃ c, w17.heap.size = c := ⟨_, rfl⟩
 try rw [hc18]
 obtain ⟨w18, hw18⟩ : ∃ X, allocs w17 [.cells #[.string ⟨#[121]⟩] 9] = X := ⟨_, rfl⟩
 rw [show w17.alloc (.cells #[.string ⟨#[121]⟩] 9) = w18 from hw18]
 have hb : Below w17.heap.size w17 w18 := by rw [← hw18]; exact allocs_below _ _
 have HX : Hid (w18.heap[c18]? = some (.cells #[.string ⟨#[121]⟩] 9 (0, 0))) := Lib.hid (by have := allocs_get [.cells #[.string ⟨#[121]⟩] 9] w17 0 _ rfl; rw [hw18, hc18] at this; exact this)
 have Sc18 : Hid (w17.heap.size = c18) := Lib.hid hc18
 replace HC := Lib.hid (HC.out.push hb)
 clear hb hw18 hc18
 refine (ref9_SameTexts [tY] [tY] at14 (some ⟨c18, 0, none⟩) 1 1 ct14 1 _ (X14.out.below (HC.out.to w14 (by simp)) rfl) (cells_rowT HX.out) rfl rfl (by omega)).mono ?_
 rintro e w19 ⟨rfl, hb⟩
 replace HC := Lib.hid (HC.out.push hb)
 clear hb
 rw [decide_eq_true rfl]
 go_wp2_with fail
 obtain ⟨c20, hc20⟩ : ∃ c, w19.heap.size = c := ⟨_, rfl⟩
 try rw [hc20]
 obtain ⟨w20, hw20⟩ : ∃ X, allocs w19 [.cells #[.string ⟨#[120]⟩, .string ⟨#[121]⟩] 9] = X := ⟨_, rfl⟩
 rw [show w19.alloc (.cells #[.string ⟨#[120]⟩, .string ⟨#[121]⟩] 9) = w20 from hw20]
 have hb : Below w19.heap.size w19 w20 := by rw [← hw20]; exact allocs_below _ _
 have HY : Hid (w20.heap[c20]? = some (.cells #[.string ⟨#[120]⟩, .string ⟨#[121]⟩] 9 (0, 0))) := Lib.hid (by have := allocs_get [.cells #[.string ⟨#[120]⟩, .string ⟨#[121]⟩] 9] w19 0 _ rfl; rw [hw20, hc20] at this; exact this)
 have Sc20 : Hid (w19.heap.size = c20) := Lib.hid hc20
 replace HC := Lib.hid (HC.out.push hb)
 clear hb hw20 hc20
 refine (ref9_SameTexts [tX, tY] [tX, tY] at15 (some ⟨c20, 0, none⟩) 2 2 ct15 2 _ (X15.out.below (HC.out.to w15 (by simp)) rfl) (cells_rowT HY.out) rfl rfl (by omega)).mono ?_
 rintro e w21 ⟨rfl, hb⟩
 replace HC := Lib.hid (HC.out.push hb)
 clear hb
 rw [decide_eq_true rfl]
 go_wp2_with fail
 go_ret
 exact ⟨rfl, (HC.out.to w (by simp))⟩
end Go.Proofs.YtjlliohjeiclaaaGreatDoor
namespace Go.Proofs.YtjlliohjeiclaaaGreatDoor
open Go.RowKit St Pm
theorem esc_next {L : List UInt8} {i : Nat} (h : i < L.length) : escT (L.take (i + 1)) = escT (L.take i) ++ (if L.getD i 0 = 0 then [0, 1] else [L.getD i 0]) := by
 rw [List.take_succ_eq_append_getElem h, esc_append, List.getD_eq_getElem?_getD, List.getElem?_eq_getElem h]
 congr 1
set_option maxRecDepth 100000 in
set_option maxHeartbeats 4000000 in
theorem r11_Key (x : ByteArray) (s : Sv) (w : World) (hok : s.ok = true) (hx : x.size ≤ 35184372088830) :
 Calls Tryz.prog 59 #[.string x, .agg #[.int .i64 s.g, .int .i64 s.r, .string s.l, .int .i64 s.n, .int .i64 s.i]] w fun e w' => e = .returned (.string (tagK (s, x))) ∧ Below w.heap.size w w' := by
 have BT := Lib.hid u8T
 have HLX := Lib.hid (dlen x)
 have HT : Hid (frontB x ++ keyB s.st = tagK (s, x)) := Lib.hid (tag_front (s, x))
 have HF : Hid (frontB x = ⟨(escT x.data.toList ++ [0, 0]).toArray⟩) := Lib.hid rfl
 have HKZ := Lib.hid (key_size hok)
 have OK := Lib.hid hok
 generalize tagK (s, x) = out at *
 clear hok
 have x1 := heap_alloc_new w (.cells #[.int .i64 s.g, .int .i64 s.r, .string s.l, .int .i64 s.n, .int .i64 s.i] 43)
 have b1 := below_new w (.cells #[.int .i64 s.g, .int .i64 s.r, .string s.l, .int .i64 s.n, .int .i64 s.i] 43)
 have hz : (w.alloc (.cells #[.int .i64 s.g, .int .i64 s.r, .string s.l, .int .i64 s.n, .int .i64 s.i] 43)).heap.size = w.heap.size + 1 := by simp
 go_enter Tryz.func59, Tryz.ntmps59
 go_upto_region 1 with (fail)
 generalize w.alloc (.cells #[.int .i64 s.g, .int .i64 s.r, .string s.l, .int .i64 s.n, .int .i64 s.i] 43) = W at *
 obtain ⟨z, hzz⟩ : ∃ z, w.heap.size = z := ⟨_, rfl⟩
 rw [hzz] at x1 b1 hz ⊢
 have X1 := Lib.hid x1
 have B1 := Lib.hid b1
 clear x1 b1
 go_wp2_with fail
 go_loopw [5, 6] (fun bv iv wr => ∃ (i : Nat), iv = .int .i64 (i : Int) ∧ i ≤ x.size ∧ Hid (wr.ownsRow (z + 1) 5 1 bv (escT (x.data.toList.take i)).length (bvs (escT (x.data.toList.take i)))) ∧ Hid (Below (z + 1) W wr)) (fun _ iv _ => x.size - (intOf iv).toNat)
 case atStart => exact ⟨0, rfl, Nat.zero_le _, Lib.hid ⟨rfl, Or.inl ⟨rfl, rfl⟩⟩, Lib.hid (Below.refl _ _)⟩
 case round =>
  obtain ⟨i, rfl, hi, HO, HB⟩ := hrel
  have hws : z + 1 ≤ wr.heap.size := by have := HB.out.size; omega
  have hel : (escT (x.data.toList.take i)).length ≤ 2 * i := by
   have h1 := esc_len (x.data.toList.take i)
   have h2 := List.length_take (i := i) (l := x.data.toList)
   omega
  by_cases hlt : i < x.size
  · have hlti : (i : Int) < (x.size : Int) := by omega
    have hLl : i < x.data.toList.length := by rw [HLX.out]; exact hlt
    have HEN := Lib.hid (esc_next hLl)
    have IX := Lib.hid (fun w' => ix_str (P := Tryz.prog) w' 9 Tryz.underlying9 x i (i : Int) rfl hlt)
    obtain ⟨c, hc⟩ : ∃ c, x.data.toList.getD i 0 = c := ⟨_, rfl⟩
    rw [hc] at IX HEN
    generalize escT (x.data.toList.take i) = E at *
    clear hc hLl
    have ix := IX.out wr
    go_upto_region 6 with (at_builtin; refine wpList_appb rfl _ _ 113 113 rfl (z + 1) 5 BT.out _ E rfl (HO.out.alloc _) _ [c] rfl (src_one Tryz.underlying113 _ 5 c _ (by rfl)) (by simp; omega) (by simp; omega) ?_; intro v6 w6 hown _ hbel _)
    have HO6 := Lib.hid hown
    have HB6 := Lib.hid ((HB.out.alloc (by simpa using hws) _).trans hbel)
    have hws6 : z + 1 ≤ w6.heap.size := by have := HB6.out.size; omega
    have ix6 := IX.out w6
    clear hown hbel ix
    by_cases hc0 : c = 0
    · subst hc0
      rw [show (((0 : UInt8).toNat : Nat) : Int) = 0 from rfl] at IX
      replace ix6 := IX.out w6
      rw [if_pos rfl] at HEN
      go_wp2_with (at_builtin; go_must (refine wpList_appb rfl _ _ 113 113 rfl (z + 1) 5 BT.out _ (E ++ [0]) rfl (HO6.out.alloc _) _ [1] rfl (src_one Tryz.underlying113 _ 5 1 _ (by rfl)) (by simp; omega) (by simp; omega) ?_); go_must (intro v7 w7 hown7 _ hbel7 _))
      have HO7 : Hid (w7.ownsRow (z + 1) 5 1 v7 (escT (x.data.toList.take (i + 1))).length (bvs (escT (x.data.toList.take (i + 1))))) := Lib.hid (by rw [HEN.out, show E ++ [0, 1] = (E ++ [0]) ++ [1] from (by simp)]; exact hown7)
      have HB7 := Lib.hid ((HB6.out.alloc (by simpa using hws6) _).trans hbel7)
      clear hown7 hbel7 ix6
      go_wp2_with fail
      go_roundw
      case rel => exact ⟨i + 1, by go_num, by omega, HO7, HB7⟩
      case measure => simp [intOf]; omega
    · have hcn : ((c.toNat : Int) == 0) = false := by
       exact beq_eq_false_iff_ne.2 fun e => hc0 (u8_zero e)
      rw [if_neg hc0] at HEN
      have HO7 : Hid (w6.ownsRow (z + 1) 5 1 v6 (escT (x.data.toList.take (i + 1))).length (bvs (escT (x.data.toList.take (i + 1))))) := Lib.hid (by rw [HEN.out]; exact HO6.out)
      go_wp2_with fail
      go_roundw
      case rel => exact ⟨i + 1, by go_num, by omega, HO7, HB6⟩
      case measure => simp [intOf]; omega
  · obtain rfl : i = x.size := by omega
    have hlti : ¬ (x.size : Int) < (x.size : Int) := by omega
    have e1 : x.data.toList.take x.size = x.data.toList := List.take_of_length_le (by rw [HLX.out]; exact Nat.le_refl _)
    rw [e1] at HO hel
    have HFL : Hid ((⟨(escT x.data.toList ++ [0, 0]).toArray⟩ : ByteArray).size ≤ 2 * x.size + 2) := Lib.hid (by
     show (escT x.data.toList ++ [0, 0]).toArray.size ≤ _
     rw [List.size_toArray, List.length_append]
     simp only [List.length_cons, List.length_nil]
     omega)
    rw [HF.out] at HT
    generalize escT x.data.toList = E at *
    clear e1
    obtain ⟨fr, hfr⟩ : ∃ fr : ByteArray, (⟨(E ++ [0, 0]).toArray⟩ : ByteArray) = fr := ⟨_, rfl⟩
    rw [hfr] at HFL HT
    have HFR := Lib.hid hfr
    have CV : Hid (∀ W' a c, BytesAt W' a (E ++ [0, 0]) → (convert 113 9 (.slice a (E.length + 2) c)).run Tryz.prog W' = .ok (.string fr) W') := Lib.hid (fun W' a c h => by
     rw [← HFR.out]
     exact conv_bytes (P := Tryz.prog) h 113 5 9 Tryz.underlying113 Tryz.underlying5 Tryz.underlying9 (E.length + 2) c (by simp))
    obtain ⟨kb, hkb⟩ : ∃ kb, keyB s.st = kb := ⟨_, rfl⟩
    have RK : Hid (∀ w', Calls Tryz.prog 102 #[.agg #[.int .i64 s.g, .int .i64 s.r, .string s.l, .int .i64 s.n, .int .i64 s.i]] w' fun e w'' => e = .returned (.string kb) ∧ Below w'.heap.size w' w'') := Lib.hid (fun w' => by rw [← hkb]; exact ref6_Key s w' OK.out)
    rw [hkb] at HT HKZ
    have hfit : ¬ 9223372036854775807 < fr.size + kb.size := by have h1 := HFL.out; have h2 := HKZ.out; omega
    clear hfr hkb
    go_upto_region 8 with (fail)
    have HC : Hid (Chain [wr] wr) := Lib.hid (Chain.one wr)
    have HZB := Lib.hid hws
    refine wp_region_noPanic ?_
    refine wp_region_held_drew (S := fun w' => Below (z+1) wr w') (by kernel_rfl) (Below.refl _ _).drew (fun hS => ?_)
    refine wpAnyH_take (i := 0) (oi := ⟨some 26, _, _, _, _, _⟩) (v := ?_) rfl (by kernel_rfl) (by kernel_rfl) (by kernel_rfl) (fun _ _ _ h => h) (Or.inl ⟨by rfl, ?_⟩) hS ?_
    rotate_left 1
    · intro w' hB; have hx := (hB.block z (by omega)).trans ((HB.out.block z (by omega)).trans X1.out); have q0 := cell_of_row _ _ 0 _ _ _ hx; have q1 := cell_of_row _ _ 1 _ _ _ hx; have q2 := cell_of_row _ _ 2 _ _ _ hx; have q3 := cell_of_row _ _ 3 _ _ _ hx; have q4 := cell_of_row _ _ 4 _ _ _ hx; clear hx; (go_simp <;> with_reducible rfl)
    try simp only [Act.put, List.setIfInBounds_toArray, List.set_cons_zero, List.set_cons_succ]
    refine wpAnyH_take (i := 4) (oi := ⟨some 30, _, _, _, _, _⟩) (v := ?_) rfl (by kernel_rfl) (by kernel_rfl) (by kernel_rfl) (fun _ _ _ h => h) (Or.inl ⟨by rfl, ?_⟩) hS ?_
    rotate_left 1
    · intro w' hB; have hx := (hB.block z (by omega)).trans ((HB.out.block z (by omega)).trans X1.out); have q0 := cell_of_row _ _ 0 _ _ _ hx; have q1 := cell_of_row _ _ 1 _ _ _ hx; have q2 := cell_of_row _ _ 2 _ _ _ hx; have q3 := cell_of_row _ _ 3 _ _ _ hx; have q4 := cell_of_row _ _ 4 _ _ _ hx; clear hx; (go_simp <;> with_reducible rfl)
    try simp only [Act.put, List.setIfInBounds_toArray, List.set_cons_zero, List.set_cons_succ]
    refine wpAnyH_ready (rs := [1]) (by kernel_rfl) (by simp) (AllReadyH.cons (o := ⟨some 27, _, _, _, _, _⟩) rfl (fun K hK => ?_) AllReadyH.nil)
    go_simp
    refine hK.out _ _ (hS.alloc (Nat.le_trans HZB.out hS.size) _) (fun _ => ?_)
    clear hK K
    refine wpAnyH_madeK hS (Nat.le_trans HZB.out hS.size) ?_
    have hS0 := hS
    clear hS
    rintro w8 hw hS
    have H8 := Lib.hid (cellsAt_made (vs := [.int .u8 0, .int .u8 0]) hw)
    have O8 := Lib.hid (show World.ownsRow w8 (z + 1) 5 1 _ E.length (bvs E) from by rw [hw]; exact HO.out.alloc _)
    clear hw hS0
    try simp only [Act.put, List.setIfInBounds_toArray, List.set_cons_zero, List.set_cons_succ]
    refine wpAnyH_ready (rs := [2]) (by kernel_rfl) (by simp) (AllReadyH.cons (o := ⟨some 28, _, _, _, _, _⟩) rfl (fun K hK => ?_) AllReadyH.nil)
    refine step_appb rfl _ _ _ _ rfl (z + 1) 5 BT.out _ E rfl O8.out _ [0, 0] rfl (H8.out.srcN rfl (by simp [Value.oneCell']) Tryz.underlying113 2 (by decide)) (by simp; omega) (by have h1 := hS.size; omega) ?_
    intro v9 w9 hown hgr hb hor
    refine hK.out _ _ (hS.trans hb) (fun _ => ?_)
    clear hK K
    replace hS := hS.trans hb
    obtain ⟨a9, c9, hv9, _⟩ := own_slice hown
    subst hv9
    have Y9 := Lib.hid (own_bytes hown)
    have hcv := CV.out _ a9 c9 (own_bytes hown)
    clear hown
    clear hb hgr hor
    try simp only [Act.put, List.setIfInBounds_toArray, List.set_cons_zero, List.set_cons_succ]
    refine wpAnyH_ready (rs := [3, 5]) (by kernel_rfl) (by simp) (AllReadyH.cons (o := ⟨some 29, _, _, _, _, _⟩) rfl (fun K hK => ?way2) (AllReadyH.cons (o := ⟨some 31, _, _, _, _, _⟩) rfl (fun K hK => ?way1) AllReadyH.nil))
    case' way2 =>
     go_simp
     refine hK.out _ _ hS (fun _ => ?_)
     clear hK K hcv
     try simp only [Act.put, List.setIfInBounds_toArray, List.set_cons_zero, List.set_cons_succ]
     refine wpAnyH_ready (rs := [5]) (by kernel_rfl) (by simp) (AllReadyH.cons (o := ⟨some 31, _, _, _, _, _⟩) rfl (fun K hK => ?_) AllReadyH.nil)
     go_simp
     refine (RK.out _).mono ?_
     rintro e w10 ⟨rfl, hb⟩
     refine hK.out _ _ (hS.trans (hb.mono (Nat.le_trans HZB.out hS.size))) (fun _ => ?_)
     clear hK K
     replace hS := hS.trans (hb.mono (Nat.le_trans HZB.out hS.size))
     have hcv := CV.out _ a9 c9 (Y9.out.below hb rfl)
     clear hb
     try simp only [Act.put, List.setIfInBounds_toArray, List.set_cons_zero, List.set_cons_succ]
     refine wpAnyH_take (i := 6) (oi := ⟨some 32, _, _, _, _, _⟩) (v := ?_) rfl (by kernel_rfl) (by kernel_rfl) (by kernel_rfl) (fun _ _ _ h => h) (Or.inl ⟨by rfl, ?_⟩) hS ?_
     rotate_left 1
     · intro w' hB; have hx := (hB.block z (by omega)).trans ((HB.out.block z (by omega)).trans X1.out); have q0 := cell_of_row _ _ 0 _ _ _ hx; have q1 := cell_of_row _ _ 1 _ _ _ hx; have q2 := cell_of_row _ _ 2 _ _ _ hx; have q3 := cell_of_row _ _ 3 _ _ _ hx; have q4 := cell_of_row _ _ 4 _ _ _ hx; clear hx; (go_simp <;> with_reducible rfl)
     try simp only [Act.put, List.setIfInBounds_toArray, List.set_cons_zero, List.set_cons_succ]
     refine wpAnyH_take (i := 7) (oi := ⟨some 4, _, _, _, _, _⟩) (v := ?_) rfl (by kernel_rfl) (by kernel_rfl) (by kernel_rfl) (fun _ _ _ h => h) (Or.inl ⟨by rfl, ?_⟩) hS ?_
     rotate_left 1
     · intro w' hB; have hx := (hB.block z (by omega)).trans ((HB.out.block z (by omega)).trans X1.out); have q0 := cell_of_row _ _ 0 _ _ _ hx; have q1 := cell_of_row _ _ 1 _ _ _ hx; have q2 := cell_of_row _ _ 2 _ _ _ hx; have q3 := cell_of_row _ _ 3 _ _ _ hx; have q4 := cell_of_row _ _ 4 _ _ _ hx; clear hx; (go_simp <;> with_reducible rfl)
     try simp only [Act.put, List.setIfInBounds_toArray, List.set_cons_zero, List.set_cons_succ]
     refine wpAnyH_done (by kernel_rfl) (NoPanic.normal ?_) _
    case' way1 =>
     go_simp
     refine (RK.out _).mono ?_
     rintro e w10 ⟨rfl, hb⟩
     refine hK.out _ _ (hS.trans (hb.mono (Nat.le_trans HZB.out hS.size))) (fun _ => ?_)
     clear hK K
     replace hS := hS.trans (hb.mono (Nat.le_trans HZB.out hS.size))
     have hcv := CV.out _ a9 c9 (Y9.out.below hb rfl)
     clear hb
     try simp only [Act.put, List.setIfInBounds_toArray, List.set_cons_zero, List.set_cons_succ]
     refine wpAnyH_ready (rs := [3]) (by kernel_rfl) (by simp) (AllReadyH.cons (o := ⟨some 29, _, _, _, _, _⟩) rfl (fun K hK => ?_) AllReadyH.nil)
     go_simp
     refine hK.out _ _ hS (fun _ => ?_)
     clear hK K hcv
     try simp only [Act.put, List.setIfInBounds_toArray, List.set_cons_zero, List.set_cons_succ]
     refine wpAnyH_take (i := 6) (oi := ⟨some 32, _, _, _, _, _⟩) (v := ?_) rfl (by kernel_rfl) (by kernel_rfl) (by kernel_rfl) (fun _ _ _ h => h) (Or.inl ⟨by rfl, ?_⟩) hS ?_
     rotate_left 1
     · intro w' hB; have hx := (hB.block z (by omega)).trans ((HB.out.block z (by omega)).trans X1.out); have q0 := cell_of_row _ _ 0 _ _ _ hx; have q1 := cell_of_row _ _ 1 _ _ _ hx; have q2 := cell_of_row _ _ 2 _ _ _ hx; have q3 := cell_of_row _ _ 3 _ _ _ hx; have q4 := cell_of_row _ _ 4 _ _ _ hx; clear hx; (go_simp <;> with_reducible rfl)
     try simp only [Act.put, List.setIfInBounds_toArray, List.set_cons_zero, List.set_cons_succ]
     refine wpAnyH_take (i := 7) (oi := ⟨some 4, _, _, _, _, _⟩) (v := ?_) rfl (by kernel_rfl) (by kernel_rfl) (by kernel_rfl) (fun _ _ _ h => h) (Or.inl ⟨by rfl, ?_⟩) hS ?_
     rotate_left 1
     · intro w' hB; have hx := (hB.block z (by omega)).trans ((HB.out.block z (by omega)).trans X1.out); have q0 := cell_of_row _ _ 0 _ _ _ hx; have q1 := cell_of_row _ _ 1 _ _ _ hx; have q2 := cell_of_row _ _ 2 _ _ _ hx; have q3 := cell_of_row _ _ 3 _ _ _ hx; have q4 := cell_of_row _ _ 4 _ _ _ hx; clear hx; (go_simp <;> with_reducible rfl)
     try simp only [Act.put, List.setIfInBounds_toArray, List.set_cons_zero, List.set_cons_succ]
     refine wpAnyH_done (by kernel_rfl) (NoPanic.normal ?_) _
    all_goals
     go_wp2_with fail
     go_ret
     exact ⟨by rw [← HT.out]; rfl, B1.out.trans ((HB.out.trans hS).mono (by omega))⟩
end Go.Proofs.YtjlliohjeiclaaaGreatDoor
namespace Go.Proofs.YtjlliohjeiclaaaGreatDoor
open Go.RowKit St Pm
set_option maxRecDepth 100000 in
set_option maxHeartbeats 4000000 in
theorem r11_OfKey (k : ByteArray) (w : World) (hs : k.size ≤ 35184372088830) : Calls Tryz.prog 18 #[.string k] w fun e w' => e = .returned (elO (ofR k)) ∧ Below w.heap.size w w' := by
 have BT := Lib.hid u8T
 have E0 : Hid (decR [] k.data.toList = none → elO (ofR k) = .tuple #[.agg #[.int .i64 0, .int .i64 0, .string ⟨#[]⟩, .int .i64 0, .int .i64 0, .string ⟨#[]⟩], .bool false]) := Lib.hid (fun h => by unfold ofR; rw [h]; rfl)
 have E1 : Hid (∀ t r, decR [] k.data.toList = some (t, r) → ofK ⟨r.toArray⟩ = none → elO (ofR k) = .tuple #[.agg #[.int .i64 0, .int .i64 0, .string ⟨#[]⟩, .int .i64 0, .int .i64 0, .string ⟨#[]⟩], .bool false]) := Lib.hid (fun t r h h2 => by unfold ofR; rw [h]; simp only [h2]; rfl)
 have E2 : Hid (∀ t r s, decR [] k.data.toList = some (t, r) → ofK ⟨r.toArray⟩ = some s → ¬ (t.length ≤ 256 ∧ tagK (s, ⟨t.toArray⟩) = k) → elO (ofR k) = .tuple #[.agg #[.int .i64 0, .int .i64 0, .string ⟨#[]⟩, .int .i64 0, .int .i64 0, .string ⟨#[]⟩], .bool false]) := Lib.hid (fun t r s h h2 h3 => by unfold ofR; rw [h]; simp only [h2]; rw [if_neg h3]; rfl)
 have E3 : Hid (∀ t r s, decR [] k.data.toList = some (t, r) → ofK ⟨r.toArray⟩ = some s → t.length ≤ 256 → tagK (s, ⟨t.toArray⟩) = k → elO (ofR k) = .tuple #[.agg #[.int .i64 s.g, .int .i64 s.r, .string s.l, .int .i64 s.n, .int .i64 s.i, .string ⟨t.toArray⟩], .bool true]) := Lib.hid (fun t r s h h2 h3 h4 => by unfold ofR; rw [h]; simp only [h2]; rw [if_pos ⟨h3, h4⟩]; rfl)
 generalize elO (ofR k) = out at *
 have x1 := heap_alloc_new w (.cells #[.int .i64 0, .int .i64 0, .string ⟨#[]⟩, .int .i64 0, .int .i64 0, .string ⟨#[]⟩] 53)
 have b1 := below_new w (.cells #[.int .i64 0, .int .i64 0, .string ⟨#[]⟩, .int .i64 0, .int .i64 0, .string ⟨#[]⟩] 53)
 have hz : (w.alloc (.cells #[.int .i64 0, .int .i64 0, .string ⟨#[]⟩, .int .i64 0, .int .i64 0, .string ⟨#[]⟩] 53)).heap.size = w.heap.size + 1 := by simp
 go_enter Tryz.func18, Tryz.ntmps18
 go_upto_region 1 with (fail)
 generalize w.alloc (.cells #[.int .i64 0, .int .i64 0, .string ⟨#[]⟩, .int .i64 0, .int .i64 0, .string ⟨#[]⟩] 53) = W at *
 obtain ⟨z, hzz⟩ : ∃ z, w.heap.size = z := ⟨_, rfl⟩
 rw [hzz] at x1 b1 hz ⊢
 have X1 := Lib.hid x1
 have B1 := Lib.hid b1
 have HLK := Lib.hid (dlen k)
 clear x1 b1
 go_wp2_with fail
 go_loopw [4, 5] (fun tv iv wr => ∃ (i : Nat) (T : List UInt8), iv = .int .i64 (i : Int) ∧ i ≤ k.size + 1 ∧ T.length ≤ i ∧ T.length ≤ k.size ∧ Hid (wr.ownsRow (z + 1) 5 1 tv T.length (bvs T)) ∧ Hid (Below (z + 1) W wr) ∧ Hid (decR T (k.data.toList.drop i) = decR [] k.data.toList)) (fun _ iv _ => k.size + 1 - (intOf iv).toNat)
 case atStart => exact ⟨0, [], rfl, Nat.zero_le _, Nat.le_refl _, Nat.zero_le _, Lib.hid ⟨rfl, Or.inl ⟨rfl, rfl⟩⟩, Lib.hid (Below.refl _ _), Lib.hid (by rw [List.drop_zero])⟩
 case round =>
  obtain ⟨i, T, rfl, hi, hTi, hTk, HO, HB, HD⟩ := hrel
  have hws : z + 1 ≤ wr.heap.size := by have := HB.out.size; omega
  have Y1 : Hid (wr.heap[z]? = some (.cells #[.int .i64 0, .int .i64 0, .string ⟨#[]⟩, .int .i64 0, .int .i64 0, .string ⟨#[]⟩] 53 (0, 0))) := Lib.hid ((HB.out.block z (by omega)).trans X1.out)
  have BW : Hid (Below z w wr) := Lib.hid (B1.out.trans (HB.out.mono (by omega)))
  by_cases hlt : i + 1 < k.size
  · have hlti : (i : Int) + 1 < (k.size : Int) := by omega
    have hLl : i + 1 < k.data.toList.length := by rw [HLK.out]; exact hlt
    obtain ⟨hd1, hd2⟩ := drop_two hLl
    have IX := Lib.hid (fun w' => ix_str (P := Tryz.prog) w' 9 Tryz.underlying9 k i (i : Int) rfl (by omega))
    have IY := Lib.hid (fun w' => ix_str (P := Tryz.prog) w' 9 Tryz.underlying9 k (i + 1) ((i : Int) + 1) (by omega) (by omega))
    obtain ⟨c, hc⟩ : ∃ c, k.data.toList.getD i 0 = c := ⟨_, rfl⟩
    obtain ⟨d, hd⟩ : ∃ d, k.data.toList.getD (i + 1) 0 = d := ⟨_, rfl⟩
    rw [hc, hd] at hd1
    rw [hd] at hd2
    rw [hc] at IX
    rw [hd] at IY
    have HD1 := Lib.hid hd1
    have HD2 := Lib.hid hd2
    clear hd1 hd2 hc hd hLl
    have hwi : IntKind.i64.wrap ((i : Int) + 1) = (i : Int) + 1 := by rw [IntKind.wrap_i64]; omega
    by_cases hc0 : c = 0
    · subst hc0
      rw [show (((0 : UInt8).toNat : Nat) : Int) = 0 from rfl] at IX
      by_cases hd0 : d = 0
      · subst hd0
        rw [show (((0 : UInt8).toNat : Nat) : Int) = 0 from rfl] at IY
        have HDN := HD.out
        rw [HD1.out, decR, if_pos ⟨rfl, rfl⟩] at HDN
        have HDM := Lib.hid HDN.symm
        have SF := Lib.hid (fun w' => sl_from (P := Tryz.prog) w' 9 Tryz.underlying9 k (i + 2) ((i : Int) + 2) (by omega) (by omega))
        have hme : (k.extract (i + 2) k.size) = ⟨(k.data.toList.drop (i + 2)).toArray⟩ := key_ext (by
         have := dlen k
         simp [List.take_of_length_le])
        obtain ⟨m, hm⟩ : ∃ m, k.extract (i + 2) k.size = m := ⟨_, rfl⟩
        have hmz : m.size ≤ 9223372036854775807 := by have := ext_size k (i + 2) k.size; rw [hm] at this; omega
        rw [hm] at SF hme
        have HME := Lib.hid hme
        obtain ⟨ta, tc, htv, _⟩ := own_slice HO.out
        subst htv
        have BY := Lib.hid (own_bytes HO.out)
        have HTS : Hid ((⟨T.toArray⟩ : ByteArray).size = T.length) := Lib.hid (by simp [ByteArray.size])
        have hwj : IntKind.i64.wrap ((i : Int) + 2) = (i : Int) + 2 := by rw [IntKind.wrap_i64]; omega
        have ix := IX.out wr
        have iy := IY.out wr
        have sf := SF.out wr
        clear HDN hm hme
        go_wp2_with fail
        refine (ref6_OfKey m wr hmz).mono ?_
        rintro e w2 ⟨rfl, hb⟩
        have HB2 := Lib.hid hb
        have hws2 : z + 1 ≤ w2.heap.size := Nat.le_trans hws hb.size
        clear hb ix iy sf
        cases hok : ofK m with
        | none =>
         have EF := Lib.hid (E1.out _ _ HDM.out (by rw [← HME.out]; exact hok))
         simp only [stO]
         have YF : Hid ((w2.alloc (.cells #[.int .i64 0, .int .i64 0, .string ⟨#[]⟩, .int .i64 0, .int .i64 0] 43)).heap[z]? = some (.cells #[.int .i64 0, .int .i64 0, .string ⟨#[]⟩, .int .i64 0, .int .i64 0, .string ⟨#[]⟩] 53 (0, 0))) := Lib.hid (boxStays (boxStays Y1.out HB2.out) (below_new _ _))
         have BF : Hid (Below z w (w2.alloc (.cells #[.int .i64 0, .int .i64 0, .string ⟨#[]⟩, .int .i64 0, .int .i64 0] 43))) := Lib.hid ((BW.out.trans (HB2.out.mono (by omega))).alloc (by omega) _)
         clear hok
         go_wp2_with (refine wpList_store_row rfl 53 (.tmp 2) (.tmp 50) rfl z #[.int .i64 0, .int .i64 0, .string ⟨#[]⟩, .int .i64 0, .int .i64 0, .string ⟨#[]⟩] rfl rfl 53 _ YF.out (by kernel_rfl) rfl (el_one6 _ _ _ _ _ _) ?_)
         have Y := setRow_heap _ z _ #[.int .i64 0, .int .i64 0, .string ⟨#[]⟩, .int .i64 0, .int .i64 0, .string ⟨#[]⟩] _ _ YF.out
         have q0 := cell_of_row _ _ 0 _ _ _ Y
         have q1 := cell_of_row _ _ 1 _ _ _ Y
         have q2 := cell_of_row _ _ 2 _ _ _ Y
         have q3 := cell_of_row _ _ 3 _ _ _ Y
         have q4 := cell_of_row _ _ 4 _ _ _ Y
         have q5 := cell_of_row _ _ 5 _ _ _ Y
         try rw [Exit.noGoto_ret]
         try show bodyPost _ _ _ _ _ _
         refine bodyPost_ret (v := .tuple #[.agg #[.int .i64 0, .int .i64 0, .string ⟨#[]⟩, .int .i64 0, .int .i64 0, .string ⟨#[]⟩], .bool false]) (by simp [results, Tryz.results18, go_sem, q0, q1, q2, q3, q4, q5]) rfl ?_
         exact ⟨by rw [EF.out], by first | exact below_setRow BF.out (Nat.le_refl _) _ | (rw [hzz]; exact below_setRow BF.out (Nat.le_refl _) _)⟩
        | some s =>
         have hok2 : ofK ⟨(k.data.toList.drop (i + 2)).toArray⟩ = some s := by rw [← HME.out]; exact hok
         have EE := Lib.hid (E2.out _ _ s HDM.out hok2)
         have EG := Lib.hid (E3.out _ _ s HDM.out hok2)
         have SOK := Lib.hid (ofK_some hok).1
         simp only [stO, stA]
         have YF : Hid ((w2.alloc (.cells #[.int .i64 s.g, .int .i64 s.r, .string s.l, .int .i64 s.n, .int .i64 s.i] 43)).heap[z]? = some (.cells #[.int .i64 0, .int .i64 0, .string ⟨#[]⟩, .int .i64 0, .int .i64 0, .string ⟨#[]⟩] 53 (0, 0))) := Lib.hid (boxStays (boxStays Y1.out HB2.out) (below_new _ _))
         have BF : Hid (Below z w (w2.alloc (.cells #[.int .i64 s.g, .int .i64 s.r, .string s.l, .int .i64 s.n, .int .i64 s.i] 43))) := Lib.hid ((BW.out.trans (HB2.out.mono (by omega))).alloc (by omega) _)
         have hx3 := heap_alloc_new w2 (.cells #[.int .i64 s.g, .int .i64 s.r, .string s.l, .int .i64 s.n, .int .i64 s.i] 43)
         have hby := (BY.out.below HB2.out rfl).below (below_new w2 (.cells #[.int .i64 s.g, .int .i64 s.r, .string s.l, .int .i64 s.n, .int .i64 s.i] 43)) rfl
         clear hok hok2
         go_upto_region 7 with (fail)
         have hzw : z < (w2.alloc (.cells #[.int .i64 s.g, .int .i64 s.r, .string s.l, .int .i64 s.n, .int .i64 s.i] 43)).heap.size := by simp; omega
         generalize w2.alloc (.cells #[.int .i64 s.g, .int .i64 s.r, .string s.l, .int .i64 s.n, .int .i64 s.i] 43) = w3 at *
         obtain ⟨y, hy⟩ : ∃ y, w2.heap.size = y := ⟨_, rfl⟩
         rw [hy] at hx3 ⊢
         have X3 := Lib.hid hx3
         have BY3 := Lib.hid hby
         have hcv : (convert 113 9 (.slice ta T.length tc)).run Tryz.prog w3 = .ok (.string ⟨T.toArray⟩) w3 := conv_bytes (P := Tryz.prog) (l := T) hby 113 5 9 Tryz.underlying113 Tryz.underlying5 Tryz.underlying9 T.length tc rfl
         clear hx3 hby
         go_wp2_with fail
         refine (ref5_Text _ _).mono ?_
         rintro e _ ⟨rfl, rfl⟩
         by_cases hf : T.length ≤ 256
         · rw [decide_eq_true (by rw [HTS.out]; exact hf)]
           have s0 := cell_of_row _ _ 0 _ _ _ X3.out
           have s1 := cell_of_row _ _ 1 _ _ _ X3.out
           have s2 := cell_of_row _ _ 2 _ _ _ X3.out
           have s3 := cell_of_row _ _ 3 _ _ _ X3.out
           have s4 := cell_of_row _ _ 4 _ _ _ X3.out
           go_wp2_with fail
           refine (r11_Key _ s _ SOK.out (by rw [HTS.out]; omega)).mono ?_
           rintro e w4 ⟨rfl, hb4⟩
           have X4 := Lib.hid (boxStays X3.out hb4)
           have YG := Lib.hid (boxStays YF.out hb4)
           have BG := Lib.hid (BF.out.trans (hb4.mono (Nat.le_of_lt hzw)))
           have BY4 := BY3.out.below hb4 rfl
           have hcv : (convert 113 9 (.slice ta T.length tc)).run Tryz.prog w4 = .ok (.string ⟨T.toArray⟩) w4 := conv_bytes (P := Tryz.prog) (l := T) BY4 113 5 9 Tryz.underlying113 Tryz.underlying5 Tryz.underlying9 T.length tc rfl
           clear hb4 s0 s1 s2 s3 s4 YF BF BY4
           have YF := YG
           have BF := BG
           by_cases hq : tagK (s, ⟨T.toArray⟩) = k
           · have EF := Lib.hid (EG.out hf hq)
             have hne : ((tagK (s, ⟨T.toArray⟩)).toList == k.toList) = true := by rw [Pm.eq_iff]; simpa using hq
             generalize tagK (s, ⟨T.toArray⟩) = kb at *
             have s0 := cell_of_row _ _ 0 _ _ _ X4.out
             have s1 := cell_of_row _ _ 1 _ _ _ X4.out
             have s2 := cell_of_row _ _ 2 _ _ _ X4.out
             have s3 := cell_of_row _ _ 3 _ _ _ X4.out
             have s4 := cell_of_row _ _ 4 _ _ _ X4.out
             clear hf hq
             go_wp2_with (refine wpList_store_row rfl 53 (.tmp 2) (.tmp 54) rfl z #[.int .i64 s.g, .int .i64 s.r, .string s.l, .int .i64 s.n, .int .i64 s.i, .string ⟨T.toArray⟩] rfl rfl 53 _ YF.out (by kernel_rfl) rfl (el_one6 _ _ _ _ _ _) ?_)
             have Y := setRow_heap _ z _ #[.int .i64 s.g, .int .i64 s.r, .string s.l, .int .i64 s.n, .int .i64 s.i, .string ⟨T.toArray⟩] _ _ YF.out
             have q0 := cell_of_row _ _ 0 _ _ _ Y
             have q1 := cell_of_row _ _ 1 _ _ _ Y
             have q2 := cell_of_row _ _ 2 _ _ _ Y
             have q3 := cell_of_row _ _ 3 _ _ _ Y
             have q4 := cell_of_row _ _ 4 _ _ _ Y
             have q5 := cell_of_row _ _ 5 _ _ _ Y
             try rw [Exit.noGoto_ret]
             try show bodyPost _ _ _ _ _ _
             refine bodyPost_ret (v := .tuple #[.agg #[.int .i64 s.g, .int .i64 s.r, .string s.l, .int .i64 s.n, .int .i64 s.i, .string ⟨T.toArray⟩], .bool true]) (by simp [results, Tryz.results18, go_sem, q0, q1, q2, q3, q4, q5]) rfl ?_
             exact ⟨by rw [EF.out], by first | exact below_setRow BF.out (Nat.le_refl _) _ | (rw [hzz]; exact below_setRow BF.out (Nat.le_refl _) _)⟩
           · have EF := Lib.hid (EE.out (fun h => hq h.2))
             have hne : ((tagK (s, ⟨T.toArray⟩)).toList == k.toList) = false := by rw [Pm.eq_iff]; simpa using hq
             generalize tagK (s, ⟨T.toArray⟩) = kb at *
             clear hf hq
             go_wp2_with (refine wpList_store_row rfl 53 (.tmp 2) (.tmp 50) rfl z #[.int .i64 0, .int .i64 0, .string ⟨#[]⟩, .int .i64 0, .int .i64 0, .string ⟨#[]⟩] rfl rfl 53 _ YF.out (by kernel_rfl) rfl (el_one6 _ _ _ _ _ _) ?_)
             have Y := setRow_heap _ z _ #[.int .i64 0, .int .i64 0, .string ⟨#[]⟩, .int .i64 0, .int .i64 0, .string ⟨#[]⟩] _ _ YF.out
             have q0 := cell_of_row _ _ 0 _ _ _ Y
             have q1 := cell_of_row _ _ 1 _ _ _ Y
             have q2 := cell_of_row _ _ 2 _ _ _ Y
             have q3 := cell_of_row _ _ 3 _ _ _ Y
             have q4 := cell_of_row _ _ 4 _ _ _ Y
             have q5 := cell_of_row _ _ 5 _ _ _ Y
             try rw [Exit.noGoto_ret]
             try show bodyPost _ _ _ _ _ _
             refine bodyPost_ret (v := .tuple #[.agg #[.int .i64 0, .int .i64 0, .string ⟨#[]⟩, .int .i64 0, .int .i64 0, .string ⟨#[]⟩], .bool false]) (by simp [results, Tryz.results18, go_sem, q0, q1, q2, q3, q4, q5]) rfl ?_
             exact ⟨by rw [EF.out], by first | exact below_setRow BF.out (Nat.le_refl _) _ | (rw [hzz]; exact below_setRow BF.out (Nat.le_refl _) _)⟩
         · rw [decide_eq_false (by rw [HTS.out]; exact hf)]
           have EF := Lib.hid (EE.out (fun h => hf h.1))
           clear hf
           go_wp2_with (refine wpList_store_row rfl 53 (.tmp 2) (.tmp 50) rfl z #[.int .i64 0, .int .i64 0, .string ⟨#[]⟩, .int .i64 0, .int .i64 0, .string ⟨#[]⟩] rfl rfl 53 _ YF.out (by kernel_rfl) rfl (el_one6 _ _ _ _ _ _) ?_)
           have Y := setRow_heap _ z _ #[.int .i64 0, .int .i64 0, .string ⟨#[]⟩, .int .i64 0, .int .i64 0, .string ⟨#[]⟩] _ _ YF.out
           have q0 := cell_of_row _ _ 0 _ _ _ Y
           have q1 := cell_of_row _ _ 1 _ _ _ Y
           have q2 := cell_of_row _ _ 2 _ _ _ Y
           have q3 := cell_of_row _ _ 3 _ _ _ Y
           have q4 := cell_of_row _ _ 4 _ _ _ Y
           have q5 := cell_of_row _ _ 5 _ _ _ Y
           try rw [Exit.noGoto_ret]
           try show bodyPost _ _ _ _ _ _
           refine bodyPost_ret (v := .tuple #[.agg #[.int .i64 0, .int .i64 0, .string ⟨#[]⟩, .int .i64 0, .int .i64 0, .string ⟨#[]⟩], .bool false]) (by simp [results, Tryz.results18, go_sem, q0, q1, q2, q3, q4, q5]) rfl ?_
           exact ⟨by rw [EF.out], by first | exact below_setRow BF.out (Nat.le_refl _) _ | (rw [hzz]; exact below_setRow BF.out (Nat.le_refl _) _)⟩
      · have hdn : ((d.toNat : Int) == 0) = false := by
         exact beq_eq_false_iff_ne.2 fun e => hd0 (u8_zero e)
        have HDN := HD.out
        rw [HD1.out, decR, if_neg (fun e => hd0 e.2), if_pos rfl] at HDN
        have HDM := Lib.hid HDN
        have ix := IX.out wr
        have iy := IY.out wr
        clear HDN
        go_upto_region 11 with (at_builtin; refine wpList_appb rfl _ _ 113 113 rfl (z + 1) 5 BT.out _ T rfl (HO.out.alloc _) _ [0] rfl (src_one Tryz.underlying113 _ 5 0 _ (by rfl)) (by simp; omega) (by simp; omega) ?_; intro v6 w6 hown _ hbel _)
        have HO6 := Lib.hid hown
        have HB6 := Lib.hid ((HB.out.alloc (by simpa using hws) _).trans hbel)
        have ix6 := IX.out w6
        clear hown hbel ix
        go_wp2_with fail
        go_roundw
        case rel => exact ⟨i + 2, T ++ [0], by go_num, by omega, by simp; omega, by simp; omega, HO6, HB6, HDM⟩
        case measure => simp [intOf]; omega
    · have hcn : ((c.toNat : Int) == 0) = false := by
       exact beq_eq_false_iff_ne.2 fun e => hc0 (u8_zero e)
      have HDN := HD.out
      rw [HD1.out, decR, if_neg (fun e => hc0 e.1), if_neg hc0, ← HD2.out] at HDN
      have HDM := Lib.hid HDN
      have ix := IX.out wr
      have iy := True.intro
      clear HDN
      go_upto_region 11 with (at_builtin; refine wpList_appb rfl _ _ 113 113 rfl (z + 1) 5 BT.out _ T rfl (HO.out.alloc _) _ [c] rfl (src_one Tryz.underlying113 _ 5 c _ (by rfl)) (by simp; omega) (by simp; omega) ?_; intro v6 w6 hown _ hbel _)
      have HO6 := Lib.hid hown
      have HB6 := Lib.hid ((HB.out.alloc (by simpa using hws) _).trans hbel)
      have ix6 := IX.out w6
      clear hown hbel ix
      go_wp2_with fail
      go_roundw
      case rel => exact ⟨i + 1, T ++ [c], by go_num, by omega, by simp; omega, by simp; omega, HO6, HB6, HDM⟩
      case measure => simp [intOf]; omega
  · have hlti : ¬ (i : Int) + 1 < (k.size : Int) := by omega
    have HDN := HD.out
    rw [show decR T (k.data.toList.drop i) = none from by
     have h1 : (k.data.toList.drop i).length ≤ 1 := by rw [List.length_drop, HLK.out]; omega
     match k.data.toList.drop i, h1 with
     | [], _ => rw [decR]
     | [_], _ => rw [decR]] at HDN
    have EF := Lib.hid (E0.out HDN.symm)
    have YF := Y1
    have BF := BW
    clear HDN
    go_wp2_with (refine wpList_store_row rfl 53 (.tmp 2) (.tmp 67) rfl z #[.int .i64 0, .int .i64 0, .string ⟨#[]⟩, .int .i64 0, .int .i64 0, .string ⟨#[]⟩] rfl rfl 53 _ YF.out (by kernel_rfl) rfl (el_one6 _ _ _ _ _ _) ?_)
    have Y := setRow_heap _ z _ #[.int .i64 0, .int .i64 0, .string ⟨#[]⟩, .int .i64 0, .int .i64 0, .string ⟨#[]⟩] _ _ YF.out
    have q0 := cell_of_row _ _ 0 _ _ _ Y
    have q1 := cell_of_row _ _ 1 _ _ _ Y
    have q2 := cell_of_row _ _ 2 _ _ _ Y
    have q3 := cell_of_row _ _ 3 _ _ _ Y
    have q4 := cell_of_row _ _ 4 _ _ _ Y
    have q5 := cell_of_row _ _ 5 _ _ _ Y
    try rw [Exit.noGoto_ret]
    try show bodyPost _ _ _ _ _ _
    refine bodyPost_ret (v := .tuple #[.agg #[.int .i64 0, .int .i64 0, .string ⟨#[]⟩, .int .i64 0, .int .i64 0, .string ⟨#[]⟩], .bool false]) (by simp [results, Tryz.results18, go_sem, q0, q1, q2, q3, q4, q5]) rfl ?_
    exact ⟨by rw [EF.out], by first | exact below_setRow BF.out (Nat.le_refl _) _ | (rw [hzz]; exact below_setRow BF.out (Nat.le_refl _) _)⟩
end Go.Proofs.YtjlliohjeiclaaaGreatDoor
