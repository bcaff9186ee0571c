/- Words, contracts and walks that the proof stands on (WkCS). -/
import Derived.Test.YtjlliohjeiclaaaGreatDoorKE1
import Derived.Deep.CutBlock
import Derived.Deep.DeepCutAuto
import Derived.Test.YtjlliohjeiclaaaGreatDoorKE17
namespace Go.Proofs.YtjlliohjeiclaaaGreatDoor
open Go.RowKit Pm
def onlyCS (cb : Nat) (k : Nat) (t : TypeId) : Prop := k = cb ∧ t = 126
def withCS (Ex : Nat → TypeId → Prop) (cb : Nat) (k : Nat) (t : TypeId) : Prop := Ex k t ∨ (k = cb ∧ t = 126)
def ownXS (B : Nat) (k : Nat) (t : TypeId) : Prop := B ≤ k ∧ (t = 126 ∨ t = 27)
structure RuleOKS (Ex : Nat → TypeId → Prop) (rf : Nat) (env : Array Value) (R B0 A0 O0 : ByteArray → ByteArray × Bool) (B : Nat) (I : List ByteArray → World → Prop) : Prop where
 own : ∀ xs W W', I xs W → KeepX (ownXS B) W W' → I xs W'
 call : ∀ key xs W, I xs W → xs.length ≤ 2147483648 → ((A0 key).2 = true ∨ (O0 key).2 = true) → Calls Tryz.prog rf (#[.string key, prtVS (B0 key), prtVS (A0 key), prtVS (O0 key)] ++ env) W fun e W' =>
  e = .returned (.tuple #[.string (R key).1, .bool (R key).2]) ∧ I (xs ++ [key]) W' ∧ KeepX Ex W W'
 enters : ∀ args w, (callFunc rf args).run Tryz.prog w = .ok (.enter rf args) w
 nNode : ∀ k, ¬ Ex k 111
 nCount : ∀ k, ¬ Ex k 126
 nMap : ∀ k, ¬ Ex k 27
 nGo : ∀ k, ¬ Ex k 198
 nRule : ∀ k, ¬ Ex k 169
structure EnvWS (rf : Nat) (env : Array Value) (cb gb rb : Nat) (s a o : Tr ByteArray) (W : World) : Prop where
 g : Boxed W gb 198 (.func (.func 145) #[] #[.pointer (some ⟨cb, 0, none⟩), .pointer (some ⟨gb, 0, none⟩), .pointer (some ⟨rb, 0, none⟩)])
 r : Boxed W rb 169 (.func (.func rf) #[] env)
 s : AtS W s
 a : AtS W a
 o : AtS W o
def CntAtS (cb rd ru : Nat) (W : World) : Prop := W.heap[cb]? = some (.cells #[.int .i64 (rd : Int), .int .i64 (ru : Int), .int .i64 0] 126 (0, 0))
theorem EnvWS.keep {Ex : Nat → TypeId → Prop} {rf cb gb rb : Nat} {env : Array Value} {s a o : Tr ByteArray} {W W' : World} (h : EnvWS rf env cb gb rb s a o W) (hk : KeepX Ex W W')
 (h1 : ∀ k, ¬ Ex k 111) (h2 : ∀ k, ¬ Ex k 198) (h3 : ∀ k, ¬ Ex k 169) : EnvWS rf env cb gb rb s a o W' :=
 ⟨hk.row h.g (h2 _), hk.row h.r (h3 _), h.s.keepX hk h1, h.a.keepX hk h1, h.o.keepX hk h1⟩
def TopWS (s a o m : Tr ByteArray) (asked : List ByteArray) : Prop :=
 (pa a = pa o ∨ pa s = pa o → asked = [] ∧ m = a) ∧ (pa s = pa a → ¬ pa a = pa o → ¬ pa s = pa o → asked = [] ∧ m = o)
def WalkPS (Ex : Nat → TypeId → Prop) (R B0 A0 O0 : ByteArray → ByteArray × Bool) (C : ByteArray → Prop) (I : List ByteArray → World → Prop) (cb : Nat) (s a o : Tr ByteArray) (xs : List ByteArray) (rd ru : Nat) (w : World) (e : Ending) (w' : World) : Prop :=
 ∃ (m : Tr ByteArray) (asked : List ByteArray), e = .returned (.agg #[.pointer (pa m)]) ∧ WlkO (⟨#[]⟩ : ByteArray) R B0 A0 O0 C s a o m asked ∧ AtS w' m ∧ I (xs ++ asked) w' ∧ CntAtS cb (rd + asked.length) (ru + asked.length) w' ∧ KeepX (withCS Ex cb) w w' ∧ TopWS s a o m asked
theorem nOnlyS (cb : Nat) : (∀ k, ¬ onlyCS cb k 111) ∧ (∀ k, ¬ onlyCS cb k 27) ∧ (∀ k, ¬ onlyCS cb k 198) ∧ (∀ k, ¬ onlyCS cb k 169) :=
 ⟨fun _ h => absurd h.2 (by decide), fun _ h => absurd h.2 (by decide), fun _ h => absurd h.2 (by decide), fun _ h => absurd h.2 (by decide)⟩
theorem CntAtS.below {cb rd ru : Nat} {W W' : World} (h : CntAtS cb rd ru W) (hb : Below W.heap.size W W') : CntAtS cb rd ru W' := boxStays h hb
structure GoFS (rf : Nat) (env : Array Value) (cb gb rb : Nat) (I : List ByteArray → World → Prop) (z : Nat) (s a o : Tr ByteArray) (xs : List ByteArray) (rd ru : Nat) (W : World) : Prop where
 x0 : Boxed W z 27 (.pointer (pa s))
 x1 : Boxed W (z + 1) 27 (.pointer (pa a))
 x2 : Boxed W (z + 1 + 1) 27 (.pointer (pa o))
 x3 : Boxed W (z + 1 + 1 + 1) 27 (.pointer none)
 e : EnvWS rf env cb gb rb s a o W
 c : CntAtS cb rd ru W
 i : I xs W
section
variable {Ex : Nat → TypeId → Prop} {rf : Nat} {env : Array Value} {R B0 A0 O0 : ByteArray → ByteArray × Bool} {B cb gb rb z : Nat} {I : List ByteArray → World → Prop} {s a o : Tr ByteArray} {xs : List ByteArray} {rd ru : Nat} {W W' : World}
theorem GoFS.below (h : GoFS rf env cb gb rb I z s a o xs rd ru W) (hR : RuleOKS Ex rf env R B0 A0 O0 B I) (hb : Below W.heap.size W W') : GoFS rf env cb gb rb I z s a o xs rd ru W' :=
 ⟨boxStays h.x0 hb, boxStays h.x1 hb, boxStays h.x2 hb, boxStays h.x3 hb, h.e.keep (Ex := onlyCS cb) (KeepX.ofBelow hb) (nOnlyS cb).1 (nOnlyS cb).2.2.1 (nOnlyS cb).2.2.2, h.c.below hb, hR.own _ _ _ h.i (KeepX.ofBelow hb)⟩
theorem cnt_setS {cb rd ru : Nat} {W : World} (h : CntAtS cb rd ru W) : CntAtS cb (rd + 1) ru (W.setCell ⟨cb, 0, none⟩ (.int .i64 ((rd : Int) + 1))) ∧ CntAtS cb rd (ru + 1) (W.setCell ⟨cb, 1, none⟩ (.int .i64 ((ru : Int) + 1))) := by
 unfold CntAtS at h ⊢
 exact ⟨by have := heap_setCell_same W cb 0 _ _ (.int .i64 ((rd : Int) + 1)) h; simpa using this, by have := heap_setCell_same W cb 1 _ _ (.int .i64 ((ru : Int) + 1)) h; simpa using this⟩
theorem keep_cntS {i : Nat} {v : Value} (h : CntAtS cb rd ru W) : KeepX (onlyCS cb) W (W.setCell ⟨cb, i, none⟩ v) := KeepX.setRow (KeepX.refl _) h ⟨rfl, rfl⟩ i v
theorem GoFS.count {i rd' ru' : Nat} {v : Value} (h : GoFS rf env cb gb rb I z s a o xs rd ru W) (hR : RuleOKS Ex rf env R B0 A0 O0 B I) (hB : B ≤ cb) (hc : CntAtS cb rd' ru' (W.setCell ⟨cb, i, none⟩ v)) :
 GoFS rf env cb gb rb I z s a o xs rd' ru' (W.setCell ⟨cb, i, none⟩ v) := by
 have hk := keep_cntS (i := i) (v := v) h.c
 obtain ⟨n1, n2, n3, n4⟩ := nOnlyS cb
 exact ⟨hk.row h.x0 (n2 _), hk.row h.x1 (n2 _), hk.row h.x2 (n2 _), hk.row h.x3 (n2 _), h.e.keep hk n1 n3 n4, hc, hR.own _ _ _ h.i (hk.monoX fun k t ht => by obtain ⟨rfl, rfl⟩ := ht; exact ⟨hB, .inl rfl⟩)⟩
theorem GoFS.ends {C : ByteArray → Prop} {w : World} {m : Tr ByteArray} {rd0 ru0 : Nat} {asked : List ByteArray} {s' a' o' : Tr ByteArray} {xs0 : List ByteArray} (hx : Boxed W (z + 1 + 1 + 1) 27 (.pointer none)) (hR : RuleOKS Ex rf env R B0 A0 O0 B I) (hB : B ≤ z) (hz : w.heap.size = z)
 (ho : WlkO (⟨#[]⟩ : ByteArray) R B0 A0 O0 C s' a' o' m asked) (hm : AtS W m) (hi : I (xs0 ++ asked) W) (hc : CntAtS cb (rd0 + asked.length) (ru0 + asked.length) W) (hk : KeepX (withCS Ex cb) w W) (ht : TopWS s' a' o' m asked) :
 WalkPS Ex R B0 A0 O0 C I cb s' a' o' xs0 rd0 ru0 w (.returned (.agg #[.pointer (pa m)])) (W.setCell ⟨z + 1 + 1 + 1, 0, none⟩ (.pointer (pa m))) := by
 have hb : KeepX (ownXS B) W (W.setCell ⟨z + 1 + 1 + 1, 0, none⟩ (.pointer (pa m))) := KeepX.setRow (KeepX.refl _) hx ⟨by omega, .inr rfl⟩ 0 _
 refine ⟨m, asked, rfl, ho, hm.setBox hx (by decide) 0 _, hR.own _ _ _ hi hb, ?_, hk.setNew (by omega) 0 _, ht⟩
 unfold CntAtS at hc ⊢
 refine (Below.heap_setCell _ _ _ _ ?_).trans hc
 show cb ≠ z + 1 + 1 + 1
 rintro rfl
 unfold Boxed at hx
 rw [hx] at hc
 simp at hc
end
theorem ask_aS {C : ByteArray → Prop} {R B0 A0 O0 : ByteArray → ByteArray × Bool} {s a o : Tr ByteArray} (h : WlkI (⟨#[]⟩ : ByteArray) B0 A0 O0 C s a o) (ha : sz a ≠ 0) : C (keyOr a) ∧ ((A0 (keyOr a)).2 = true ∨ (O0 (keyOr a)).2 = true) := by
 cases a with
 | nil => exact absurd rfl ha
 | node b l k v r =>
  have hm : (k, v) ∈ items (.node b l k v r : Tr ByteArray) := by simp [items]
  have hc : C k := h.ina _ hm
  exact ⟨hc, .inl (by show (A0 k).2 = true; rw [← h.ea k hc]; exact lk_has.2 ⟨_, hm, rfl⟩)⟩
theorem ask_oS {C : ByteArray → Prop} {R B0 A0 O0 : ByteArray → ByteArray × Bool} {s a o : Tr ByteArray} (h : WlkI (⟨#[]⟩ : ByteArray) B0 A0 O0 C s a o) (ha : sz a = 0) (hn : ¬ pa a = pa o) : C (keyOr o) ∧ ((A0 (keyOr o)).2 = true ∨ (O0 (keyOr o)).2 = true) := by
 cases a with
 | node b l k v r => simp [sz] at ha
 | nil =>
  cases o with
  | nil => exact absurd rfl hn
  | node b l k v r =>
   have hm : (k, v) ∈ items (.node b l k v r : Tr ByteArray) := by simp [items]
   have hc : C k := h.ino _ hm
   exact ⟨hc, .inr (by show (O0 k).2 = true; rw [← h.eo k hc]; exact lk_has.2 ⟨_, hm, rfl⟩)⟩
theorem prt_splitS {N : Nat} {key : ByteArray} {t l x r : Tr ByteArray} {q : ByteArray × Bool} (h : SplitR N key t l x r) (hs : Srt (items t)) (hq : lk (⟨#[]⟩ : ByteArray) (items t) key = q) : valOr x = q.1 ∧ isNS x = q.2 := by
 rw [← hq, ← prtT_lkS hs, h.seek]; exact ⟨rfl, rfl⟩
theorem boxes2 (w : World) (t : TypeId) (u v : Value) : ∃ W c, (w.alloc (.cells #[u] t)).alloc (.cells #[v] t) = W ∧ w.heap.size = c ∧ Boxed W c t u ∧ Boxed W (c + 1) t v ∧ Below w.heap.size w W := by
 refine ⟨_, _, rfl, rfl, (Boxed.new w _ _).alloc _, ?_, (below_new w _).trans ((below_new _ _).mono (by simp))⟩
 have h := Boxed.new (w.alloc (.cells #[u] t)) t v
 rw [World.size_alloc] at h
 exact h
theorem CntAtS.box {cb rd ru X : Nat} {W : World} (h : CntAtS cb rd ru W) {u : Value} (hx : W.heap[X]? = some (.cells #[u] 27 (0, 0))) (v : Value) : CntAtS cb rd ru (W.setCell ⟨X, 0, none⟩ v) := by
 unfold CntAtS at h ⊢
 refine (Below.heap_setCell _ _ _ _ ?_).trans h
 show cb ≠ X
 rintro rfl
 rw [hx] at h
 simp at h
structure PcFS (c1 c2 c3 : Nat) (sl sr al ar ol or' : Tr ByteArray) (W : World) : Prop where
 y1 : Boxed W c1 27 (.pointer (pa sl))
 y2 : Boxed W (c1 + 1) 27 (.pointer (pa sr))
 y3 : Boxed W c2 27 (.pointer (pa al))
 y4 : Boxed W (c2 + 1) 27 (.pointer (pa ar))
 y5 : Boxed W c3 27 (.pointer (pa ol))
 y6 : Boxed W (c3 + 1) 27 (.pointer (pa or'))
 sl : AtS W sl
 sr : AtS W sr
 al : AtS W al
 ar : AtS W ar
 ol : AtS W ol
 or' : AtS W or'
structure MidFS (R B0 A0 O0 : ByteArray → ByteArray × Bool) (C : ByteArray → Prop) (key : ByteArray) (I : List ByteArray → World → Prop) (cb : Nat) (xs : List ByteArray) (rd ru : Nat) (sl sr al ar ol or' : Tr ByteArray) (cA cB : Nat) (ml mr : Tr ByteArray) (as1 as2 : List ByteArray) (W : World) : Prop where
 xa : Boxed W cA 27 (.pointer (pa ml))
 xb : Boxed W cB 27 (.pointer (pa mr))
 tl : AtS W ml
 tr : AtS W mr
 o1 : WlkO (⟨#[]⟩ : ByteArray) R B0 A0 O0 (fun k => C k ∧ klt k key = true) sl al ol ml as1
 o2 : WlkO (⟨#[]⟩ : ByteArray) R B0 A0 O0 (fun k => C k ∧ klt key k = true) sr ar or' mr as2
 i : I (xs ++ (as1 ++ as2)) W
 c : CntAtS cb (rd + 1 + (as1 ++ as2).length) (ru + (as1 ++ as2).length) W
set_option maxRecDepth 100000 in
set_option maxHeartbeats 4000000 in
theorem wk_go1S {Ex : Nat → TypeId → Prop} {rf : Nat} {env : Array Value} {R B0 A0 O0 : ByteArray → ByteArray × Bool} {I : List ByteArray → World → Prop} {B : Nat} (hR : RuleOKS Ex rf env R B0 A0 O0 B I) (cb gb rb : Nat) (hBc : B ≤ cb) :
 ∀ (n : Nat) (C : ByteArray → Prop) (s a o : Tr ByteArray) (xs : List ByteArray) (rd ru : Nat) (w : World), B ≤ w.heap.size → sz a + sz o < n → sz a + sz o ≤ 1073741824 → sz s ≤ 1073741824 → rd + (sz a + sz o) ≤ 1152921504606846976 → ru + (sz a + sz o) ≤ 2147483648 →
  WlkI (⟨#[]⟩ : ByteArray) B0 A0 O0 C s a o → EnvWS rf env cb gb rb s a o w → CntAtS cb rd ru w → I xs w → xs.length ≤ ru →
  Calls Tryz.prog 145 #[.agg #[.pointer (pa s)], .agg #[.pointer (pa a)], .agg #[.pointer (pa o)], .pointer (some ⟨cb, 0, none⟩), .pointer (some ⟨gb, 0, none⟩), .pointer (some ⟨rb, 0, none⟩)] w (WalkPS Ex R B0 A0 O0 C I cb s a o xs rd ru w) := by
 have HR := Lib.hid hR
 clear hR
 intro n
 induction n with
 | zero => intro C s a o xs rd ru w _ h; omega
 | succ n ih =>
 intro C s a o xs rd ru w hBw hn hz hzs hrd hru hI hE hC hi hxr
 have IH := Lib.hid ih
 have HI := Lib.hid hI
 clear ih hI
 obtain ⟨nN, nM, nG, nR⟩ := nOnlyS cb
 obtain ⟨w1, hw1⟩ : ∃ W, (((w.alloc (.cells #[.pointer (pa s)] 27)).alloc (.cells #[.pointer (pa a)] 27)).alloc (.cells #[.pointer (pa o)] 27)).alloc (.cells #[.pointer none] 27) = W := ⟨_, rfl⟩
 have hb1 : Below w.heap.size w w1 := by rw [← hw1]; exact ((((Below.refl _ w).alloc (Nat.le_refl _) _).alloc (by simp) _).alloc (by simp; omega) _).alloc (by simp; omega) _
 obtain ⟨z, hz0⟩ : ∃ z, w.heap.size = z := ⟨_, rfl⟩
 have x0 : Boxed w1 z 27 (.pointer (pa s)) := by rw [← hw1, ← hz0]; exact (((Boxed.new w _ _).alloc _).alloc _).alloc _
 have x1 : Boxed w1 (z + 1) 27 (.pointer (pa a)) := by
  have h1 := ((Boxed.new (w.alloc (.cells #[.pointer (pa s)] 27)) 27 (.pointer (pa a))).alloc (.cells #[.pointer (pa o)] 27)).alloc (.cells #[.pointer none] 27)
  rw [World.size_alloc, hw1, hz0] at h1
  exact h1
 have x2 : Boxed w1 (z + 1 + 1) 27 (.pointer (pa o)) := by
  have h1 := (Boxed.new ((w.alloc (.cells #[.pointer (pa s)] 27)).alloc (.cells #[.pointer (pa a)] 27)) 27 (.pointer (pa o))).alloc (.cells #[.pointer none] 27)
  rw [World.size_alloc, World.size_alloc, hw1, hz0] at h1
  exact h1
 have x3 : Boxed w1 (z + 1 + 1 + 1) 27 (.pointer none) := by
  have h1 := Boxed.new (((w.alloc (.cells #[.pointer (pa s)] 27)).alloc (.cells #[.pointer (pa a)] 27)).alloc (.cells #[.pointer (pa o)] 27)) 27 (.pointer none)
  rw [World.size_alloc, World.size_alloc, World.size_alloc, hw1, hz0] at h1
  exact h1
 have k1 := cell_of_one x1
 have k2 := cell_of_one x2
 have F1 : Hid (GoFS rf env cb gb rb I z s a o xs rd ru w1) := Lib.hid ⟨x0, x1, x2, x3, hE.keep (Ex := onlyCS cb) (KeepX.ofBelow hb1) nN nG nR, hC.below hb1, HR.out.own _ _ _ hi (KeepX.ofBelow hb1)⟩
 have HW := Lib.hid hw1
 have K1 := Lib.hid (KeepX.ofBelow (Ex := withCS Ex cb) hb1)
 have HL := Lib.hid (show ∀ b, b ∈ blocks s ∨ b ∈ blocks a ∨ b ∈ blocks o → b < w.heap.size from fun b hb => by
  rcases hb with h | h | h
  · exact hE.s.lt b h
  · exact hE.a.lt b h
  · exact hE.o.lt b h)
 have hzw := hz0
 rw [hz0] at hBw
 have HZ0 := Lib.hid hz0
 clear x0 x1 x2 x3 hE hC hi hw1 hb1 hz0 nN nM nG nR
 go_enter Tryz.func145, Tryz.ntmps145
 go_wp2_with fail
 rw [HW.out]
 clear HW k1 k2
 refine (pm_MSameS a o w1 F1.out.e.a F1.out.e.o).mono ?_
 rintro e w2 ⟨rfl, hb⟩
 have F2 := Lib.hid (F1.out.below HR.out hb)
 have K2 := Lib.hid (K1.out.trans (KeepX.ofBelow hb))
 clear F1 K1 hb hzw
 by_cases hao : pa a = pa o
 · rw [decide_eq_true hao]
   have HQ := Lib.hid (F2.out.e.a.uniq F2.out.e.o hao)
   have HT : Hid (TopWS s a o a []) := Lib.hid ⟨fun _ => ⟨rfl, rfl⟩, fun _ h => absurd hao h⟩
   clear hao
   have k1 := cell_of_one F2.out.x1
   have k3 := cell_of_one F2.out.x3
   have f3 := frozen_of_row _ (z + 1 + 1 + 1) 0 _ _ F2.out.x3
   go_wp2_with fail
   have k4 := cell_of_one (heap_setCell_same w2 (z + 1 + 1 + 1) 0 _ _ (.pointer (pa a)) F2.out.x3)
   clear k1 k3 f3
   refine bodyPost_ret (v := .agg #[.pointer (pa a)]) (by simp [results, Tryz.results145, go_sem, k4]) rfl ?_
   exact GoFS.ends F2.out.x3 HR.out hBw HZ0.out (HI.out.same_ao HQ.out) F2.out.e.a (by simpa using F2.out.i) (by simpa using F2.out.c) K2.out HT.out
 rw [decide_eq_false hao]
 have HAO := Lib.hid hao
 clear hao
 have k0 := cell_of_one F2.out.x0
 have k2 := cell_of_one F2.out.x2
 go_wp2_with fail
 refine (pm_MSameS s o w2 F2.out.e.s F2.out.e.o).mono ?_
 rintro e w3 ⟨rfl, hb⟩
 have F3 := Lib.hid (F2.out.below HR.out hb)
 have K3 := Lib.hid (K2.out.trans (KeepX.ofBelow hb))
 clear F2 K2 hb k0 k2
 by_cases hso : pa s = pa o
 · rw [decide_eq_true hso]
   have HQ := Lib.hid (F3.out.e.s.uniq F3.out.e.o hso)
   have HT : Hid (TopWS s a o a []) := Lib.hid ⟨fun _ => ⟨rfl, rfl⟩, fun _ _ h => absurd hso h⟩
   clear hso
   have k1 := cell_of_one F3.out.x1
   have k3 := cell_of_one F3.out.x3
   have f3 := frozen_of_row _ (z + 1 + 1 + 1) 0 _ _ F3.out.x3
   go_wp2_with fail
   have k4 := cell_of_one (heap_setCell_same w3 (z + 1 + 1 + 1) 0 _ _ (.pointer (pa a)) F3.out.x3)
   clear k1 k3 f3
   refine bodyPost_ret (v := .agg #[.pointer (pa a)]) (by simp [results, Tryz.results145, go_sem, k4]) rfl ?_
   exact GoFS.ends F3.out.x3 HR.out hBw HZ0.out (HI.out.same_so HQ.out) F3.out.e.a (by simpa using F3.out.i) (by simpa using F3.out.c) K3.out HT.out
 rw [decide_eq_false hso]
 have HSO := Lib.hid hso
 clear hso
 have k0 := cell_of_one F3.out.x0
 have k1 := cell_of_one F3.out.x1
 go_wp2_with fail
 refine (pm_MSameS s a w3 F3.out.e.s F3.out.e.a).mono ?_
 rintro e w4 ⟨rfl, hb⟩
 have F4 := Lib.hid (F3.out.below HR.out hb)
 have K4 := Lib.hid (K3.out.trans (KeepX.ofBelow hb))
 clear F3 K3 hb k0 k1
 by_cases hsa : pa s = pa a
 · rw [decide_eq_true hsa]
   have HQ := Lib.hid (F4.out.e.s.uniq F4.out.e.a hsa)
   have HT : Hid (TopWS s a o o []) := Lib.hid ⟨fun h => h.elim (fun h => absurd h HAO.out) (fun h => absurd h HSO.out), fun _ _ _ => ⟨rfl, rfl⟩⟩
   clear hsa
   have k2 := cell_of_one F4.out.x2
   have k3 := cell_of_one F4.out.x3
   have f3 := frozen_of_row _ (z + 1 + 1 + 1) 0 _ _ F4.out.x3
   go_wp2_with fail
   have k4 := cell_of_one (heap_setCell_same w4 (z + 1 + 1 + 1) 0 _ _ (.pointer (pa o)) F4.out.x3)
   clear k2 k3 f3
   refine bodyPost_ret (v := .agg #[.pointer (pa o)]) (by simp [results, Tryz.results145, go_sem, k4]) rfl ?_
   exact GoFS.ends F4.out.x3 HR.out hBw HZ0.out (HI.out.same_sa HQ.out) F4.out.e.o (by simpa using F4.out.i) (by simpa using F4.out.c) K4.out HT.out
 rw [decide_eq_false hsa]
 have HSA := Lib.hid hsa
 clear hsa
 have cc := F4.out.c
 unfold CntAtS at cc
 have q0 := cell_of_row _ cb 0 _ _ _ cc
 have q1 := frozen_of_row _ cb 0 _ _ cc
 have k1 := cell_of_one F4.out.x1
 clear cc
 go_upto_region 7 with (fail)
 obtain ⟨w5, hw5⟩ : ∃ W, w4.setCell ⟨cb, 0, none⟩ (.int .i64 ((rd : Int) + 1)) = W := ⟨_, rfl⟩
 have F5 : Hid (GoFS rf env cb gb rb I z s a o xs (rd + 1) ru w5) := Lib.hid (by rw [← hw5]; exact F4.out.count HR.out hBc (cnt_setS F4.out.c).1)
 have K5 : Hid (KeepX (withCS Ex cb) w w5) := Lib.hid (by rw [← hw5]; exact K4.out.trans ((keep_cntS F4.out.c).monoX fun k t h => .inr h))
 rw [hw5]
 clear hw5 F4 K4 q0 q1 k1
 have k1 := cell_of_one F5.out.x1
 go_wp2_with fail
 refine (pm_MRootS a w5).mono ?_
 rintro e w6 ⟨rfl, hb⟩
 have F6 := Lib.hid (F5.out.below HR.out hb)
 have K6 := Lib.hid (K5.out.trans (KeepX.ofBelow hb))
 clear F5 K5 hb k1
 go_wp2_with fail
 refine (pm_KeyS a w6 F6.out.e.a).mono ?_
 rintro e w7 ⟨rfl, rfl⟩
 have k1 := cell_of_one F6.out.x1
 go_wp2_with fail
 refine (pm_MLenS a w6 F6.out.e.a).mono ?_
 rintro e w7 ⟨rfl, hb⟩
 have F7 := Lib.hid (F6.out.below HR.out hb)
 have K7 := Lib.hid (K6.out.trans (KeepX.ofBelow hb))
 clear F6 K6 hb k1
 go_upto_if 51 with (fail)
 go_cut [10] (fun s10 wx => ∃ key : ByteArray, s10 = .string key ∧ Hid (C key ∧ ((A0 key).2 = true ∨ (O0 key).2 = true)) ∧ Hid (GoFS rf env cb gb rb I z s a o xs (rd + 1) ru wx) ∧ Hid (KeepX (withCS Ex cb) w wx))
 case first =>
  by_cases hsz : sz a = 0
  · have h0 : ((sz a : Nat) : Int) = 0 := by omega
    have k2 := cell_of_one F7.out.x2
    go_wp2_with fail
    refine (pm_MRootS o w7).mono ?_
    rintro e w8 ⟨rfl, hb⟩
    have F8 := Lib.hid (F7.out.below HR.out hb)
    have K8 := Lib.hid (K7.out.trans (KeepX.ofBelow hb))
    clear F7 K7 hb k2
    go_wp2_with fail
    refine (pm_KeyS o w8 F8.out.e.o).mono ?_
    rintro e w9 ⟨rfl, rfl⟩
    go_wp2_with fail
    go_meet
    exact ⟨keyOr o, rfl, Lib.hid (ask_oS (R := R) HI.out hsz HAO.out), F8, K8⟩
  · have h0 : ¬ ((sz a : Nat) : Int) = 0 := by omega
    go_wp2_with fail
    go_meet
    exact ⟨keyOr a, rfl, Lib.hid (ask_aS (R := R) HI.out hsz), F7, K7⟩
 case rest =>
  obtain ⟨key, rfl, HK, F8, K8⟩ := hcut
  clear F7 K7
  have k0 := cell_of_one F8.out.x0
  go_wp2_with fail
  refine (pm_MSplitS s key wc.heap.size wc (Nat.le_refl _) F8.out.e.s (by omega)).mono ?_
  rintro e w9 ⟨sl, sx, sr, hsp, rfl, hal, har, hb⟩
  obtain ⟨hv1, hv2⟩ := prt_splitS hsp HI.out.ss (HI.out.es key HK.out.1)
  rw [hv1, hv2]
  clear hv1 hv2
  go_upto_region 11 with (fail)
  obtain ⟨w10, c1, hw, hc, y1, y2, hb10⟩ := boxes2 w9 27 (.pointer (pa sl)) (.pointer (pa sr))
  rw [hw, hc]
  have F10 := Lib.hid ((F8.out.below HR.out hb).below HR.out hb10)
  have K10 := Lib.hid ((K8.out.trans (KeepX.ofBelow hb)).trans (KeepX.ofBelow hb10))
  have Y1 := Lib.hid y1
  have Y2 := Lib.hid y2
  have A1 := Lib.hid (hal.below hb10 rfl)
  have A2 := Lib.hid (har.below hb10 rfl)
  have SP1 := Lib.hid hsp
  have Z1 : Hid ((∀ b ∈ blocks sl, b < w10.heap.size) ∧ (∀ b ∈ blocks sr, b < w10.heap.size)) := Lib.hid ⟨(hal.below hb10 rfl).lt, (har.below hb10 rfl).lt⟩
  clear hw hc y1 y2 hb10 hb hal har hsp F8 k0
  have k1 := cell_of_one F10.out.x1
  go_wp2_with fail
  refine (pm_MSplitS a key w10.heap.size w10 (Nat.le_refl _) F10.out.e.a (by omega)).mono ?_
  rintro e w11 ⟨al, ax, ar, hsp, rfl, hal, har, hb⟩
  obtain ⟨hv1, hv2⟩ := prt_splitS hsp HI.out.sa (HI.out.ea key HK.out.1)
  rw [hv1, hv2]
  clear hv1 hv2
  go_upto_region 12 with (fail)
  obtain ⟨w12, c2, hw, hc, y1, y2, hb12⟩ := boxes2 w11 27 (.pointer (pa al)) (.pointer (pa ar))
  rw [hw, hc]
  have hbb := hb.trans (hb12.mono hb.size)
  have F12 := Lib.hid (F10.out.below HR.out hbb)
  have K12 := Lib.hid (K10.out.trans (KeepX.ofBelow hbb))
  replace Y1 := Lib.hid (boxStays Y1.out hbb)
  replace Y2 := Lib.hid (boxStays Y2.out hbb)
  have Y3 := Lib.hid y1
  have Y4 := Lib.hid y2
  replace A1 := Lib.hid (A1.out.below hbb rfl)
  replace A2 := Lib.hid (A2.out.below hbb rfl)
  have A3 := Lib.hid (hal.below hb12 rfl)
  have A4 := Lib.hid (har.below hb12 rfl)
  have SP2 := Lib.hid hsp
  clear hw hc y1 y2 hb12 hb hbb hal har hsp F10 K10 k1
  have k2 := cell_of_one F12.out.x2
  go_wp2_with fail
  refine (pm_MSplitS o key w12.heap.size w12 (Nat.le_refl _) F12.out.e.o (by omega)).mono ?_
  rintro e w13 ⟨ol, ox, or', hsp, rfl, hal, har, hb⟩
  obtain ⟨hv1, hv2⟩ := prt_splitS hsp HI.out.so (HI.out.eo key HK.out.1)
  rw [hv1, hv2]
  clear hv1 hv2
  go_upto_region 13 with (fail)
  obtain ⟨w14, c3, hw, hc, y1, y2, hb14⟩ := boxes2 w13 27 (.pointer (pa ol)) (.pointer (pa or'))
  rw [hw, hc]
  have hbb := hb.trans (hb14.mono hb.size)
  have F14 := Lib.hid (F12.out.below HR.out hbb)
  have K14 := Lib.hid (K12.out.trans (KeepX.ofBelow hbb))
  have P14 : Hid (PcFS c1 c2 c3 sl sr al ar ol or' w14) := Lib.hid ⟨boxStays Y1.out hbb, boxStays Y2.out hbb, boxStays Y3.out hbb, boxStays Y4.out hbb, y1, y2, A1.out.below hbb rfl, A2.out.below hbb rfl, A3.out.below hbb rfl, A4.out.below hbb rfl, hal.below hb14 rfl, har.below hb14 rfl⟩
  have SP3 := Lib.hid hsp
  clear hw hc y1 y2 hb14 hb hbb hal har hsp F12 K12 k2 Y1 Y2 Y3 Y4 A1 A2 A3 A4
  have hzw : B ≤ w14.heap.size := Nat.le_trans hBw (Nat.le_trans (Nat.le_of_eq HZ0.out.symm) K14.out.size)
  have HWI := Lib.hid (HI.out.left SP1.out SP2.out SP3.out)
  have p1 := SP1.out.parts (⟨#[]⟩ : ByteArray) HI.out.ss
  have p2 := SP2.out.parts (⟨#[]⟩ : ByteArray) HI.out.sa
  have p3 := SP3.out.parts (⟨#[]⟩ : ByteArray) HI.out.so
  have hhere : 1 ≤ (here ax).length + (here ox).length := by
   have e2 : lk (⟨#[]⟩ : ByteArray) (here ax) key = A0 key := by rw [← p2.ex]; exact HI.out.ea key HK.out.1
   have e3 : lk (⟨#[]⟩ : ByteArray) (here ox) key = O0 key := by rw [← p3.ex]; exact HI.out.eo key HK.out.1
   rcases HK.out.2 with h | h
   · rw [← e2, lk_has] at h
     obtain ⟨y, hy, _⟩ := h
     have := List.length_pos_of_mem hy
     omega
   · rw [← e3, lk_has] at h
     obtain ⟨y, hy, _⟩ := h
     have := List.length_pos_of_mem hy
     omega
  have hq1 : sz sl + sz sr ≤ sz s := by have := p1.sz; omega
  have hq2 : sz al + sz ar + (sz ol + sz or') + 1 ≤ sz a + sz o := by have := p2.sz; have := p3.sz; omega
  have HHE := Lib.hid hhere
  clear p1 p2 p3 hhere
  have HDJ : Hid (Dj s a → Dj sl al ∧ Dj sr ar) := Lib.hid (fun hd => by
   obtain ⟨l1, l2⟩ := split_blocks SP1.out
   obtain ⟨l3, l4⟩ := split_blocks SP2.out
   have hlow : ∀ b, b ∈ blocks s ∨ b ∈ blocks a ∨ b ∈ blocks o → b < wc.heap.size := fun b hb => Nat.lt_of_lt_of_le (HL.out b hb) K8.out.size
   refine ⟨fun b hb hb' => ?_, fun b hb hb' => ?_⟩
   · rcases l3 b hb' with h | h
     · have := Z1.out.1 b hb; omega
     · rcases l1 b hb with h' | h'
       · have := hlow b (.inr (.inl h)); omega
       · exact hd b h' h
   · rcases l4 b hb' with h | h
     · have := Z1.out.2 b hb; omega
     · rcases l2 b hb with h' | h'
       · have := hlow b (.inr (.inl h)); omega
       · exact hd b h' h)
  clear Z1 HL
  have NX : Hid ((∀ k, ¬ withCS Ex cb k 111) ∧ (∀ k, ¬ withCS Ex cb k 27) ∧ (∀ k, ¬ withCS Ex cb k 198) ∧ (∀ k, ¬ withCS Ex cb k 169)) :=
   Lib.hid ⟨fun k h => h.elim (HR.out.nNode k) (fun h => absurd h.2 (by decide)), fun k h => h.elim (HR.out.nMap k) (fun h => absurd h.2 (by decide)), fun k h => h.elim (HR.out.nGo k) (fun h => absurd h.2 (by decide)), fun k h => h.elim (HR.out.nRule k) (fun h => absurd h.2 (by decide))⟩
  go_cut [23, 24] (fun s23 s24 wx => ∃ (cA cB : Nat) (ml mr : Tr ByteArray) (as1 as2 : List ByteArray), s23 = .pointer (some ⟨cA, 0, none⟩) ∧ s24 = .pointer (some ⟨cB, 0, none⟩) ∧ Hid (MidFS R B0 A0 O0 C key I cb xs rd ru sl sr al ar ol or' cA cB ml mr as1 as2 wx) ∧ Hid (KeepX (withCS Ex cb) w14 wx))
  case first =>
   have HX : Hid (I xs w14.drew ∧ CntAtS cb (rd + 1) ru w14.drew) := Lib.hid ⟨HR.out.own _ _ _ F14.out.i (KeepX.ofBelow (Below.refl _ w14).drew), F14.out.c.below (Below.refl _ w14).drew⟩
   have ENV : Hid (∀ W, KeepX (withCS Ex cb) w14 W → EnvWS rf env cb gb rb sl al ol W ∧ EnvWS rf env cb gb rb sr ar or' W) := Lib.hid (fun W h => ⟨⟨h.row F14.out.e.g (NX.out.2.2.1 _), h.row F14.out.e.r (NX.out.2.2.2 _), P14.out.sl.keepX h NX.out.1, P14.out.al.keepX h NX.out.1, P14.out.ol.keepX h NX.out.1⟩,
    ⟨h.row F14.out.e.g (NX.out.2.2.1 _), h.row F14.out.e.r (NX.out.2.2.2 _), P14.out.sr.keepX h NX.out.1, P14.out.ar.keepX h NX.out.1, P14.out.or'.keepX h NX.out.1⟩⟩)
   clear K8 HAO HSO HSA K14 HHE SP1 SP2 SP3 HDJ
   as_aux_lemma =>
    refine wp_region_noPanic ?_
    refine wp_region_held_drew (S := fun w' => KeepX (withCS Ex cb) w14 w') (by kernel_rfl) (KeepX.refl _).drew (fun hS => ?_)
    refine tk (i := 0) (oi := ⟨some 79, _, _, _, _, _⟩) (v := ?_) rfl (Or.inl ⟨by rfl, ?_⟩) hS ?_
    rotate_left 1
    · intro w' hB; have g1 := cell_of_one (hB.row F14.out.e.g (NX.out.2.2.1 _)); have y1 := cell_of_one (hB.row P14.out.y1 (NX.out.2.1 _)); have y2 := cell_of_one (hB.row P14.out.y2 (NX.out.2.1 _)); have y3 := cell_of_one (hB.row P14.out.y3 (NX.out.2.1 _)); have y4 := cell_of_one (hB.row P14.out.y4 (NX.out.2.1 _)); have y5 := cell_of_one (hB.row P14.out.y5 (NX.out.2.1 _)); have y6 := cell_of_one (hB.row P14.out.y6 (NX.out.2.1 _)); (go_simp <;> with_reducible rfl)
    try simp only [Act.put, zA, zB, zC]
    refine tk (i := 1) (oi := ⟨some 80, _, _, _, _, _⟩) (v := ?_) rfl (Or.inl ⟨by rfl, ?_⟩) hS ?_
    rotate_left 1
    · intro w' hB; have g1 := cell_of_one (hB.row F14.out.e.g (NX.out.2.2.1 _)); have y1 := cell_of_one (hB.row P14.out.y1 (NX.out.2.1 _)); have y2 := cell_of_one (hB.row P14.out.y2 (NX.out.2.1 _)); have y3 := cell_of_one (hB.row P14.out.y3 (NX.out.2.1 _)); have y4 := cell_of_one (hB.row P14.out.y4 (NX.out.2.1 _)); have y5 := cell_of_one (hB.row P14.out.y5 (NX.out.2.1 _)); have y6 := cell_of_one (hB.row P14.out.y6 (NX.out.2.1 _)); (go_simp <;> with_reducible rfl)
    try simp only [Act.put, zA, zB, zC]
    refine tk (i := 2) (oi := ⟨some 81, _, _, _, _, _⟩) (v := ?_) rfl (Or.inl ⟨by rfl, ?_⟩) hS ?_
    rotate_left 1
    · intro w' hB; have g1 := cell_of_one (hB.row F14.out.e.g (NX.out.2.2.1 _)); have y1 := cell_of_one (hB.row P14.out.y1 (NX.out.2.1 _)); have y2 := cell_of_one (hB.row P14.out.y2 (NX.out.2.1 _)); have y3 := cell_of_one (hB.row P14.out.y3 (NX.out.2.1 _)); have y4 := cell_of_one (hB.row P14.out.y4 (NX.out.2.1 _)); have y5 := cell_of_one (hB.row P14.out.y5 (NX.out.2.1 _)); have y6 := cell_of_one (hB.row P14.out.y6 (NX.out.2.1 _)); (go_simp <;> with_reducible rfl)
    try simp only [Act.put, zA, zB, zC]
    refine tk (i := 3) (oi := ⟨some 82, _, _, _, _, _⟩) (v := ?_) rfl (Or.inl ⟨by rfl, ?_⟩) hS ?_
    rotate_left 1
    · intro w' hB; have g1 := cell_of_one (hB.row F14.out.e.g (NX.out.2.2.1 _)); have y1 := cell_of_one (hB.row P14.out.y1 (NX.out.2.1 _)); have y2 := cell_of_one (hB.row P14.out.y2 (NX.out.2.1 _)); have y3 := cell_of_one (hB.row P14.out.y3 (NX.out.2.1 _)); have y4 := cell_of_one (hB.row P14.out.y4 (NX.out.2.1 _)); have y5 := cell_of_one (hB.row P14.out.y5 (NX.out.2.1 _)); have y6 := cell_of_one (hB.row P14.out.y6 (NX.out.2.1 _)); (go_simp <;> with_reducible rfl)
    try simp only [Act.put, zA, zB, zC]
    refine tk (i := 5) (oi := ⟨some 84, _, _, _, _, _⟩) (v := ?_) rfl (Or.inl ⟨by rfl, ?_⟩) hS ?_
    rotate_left 1
    · intro w' hB; have g1 := cell_of_one (hB.row F14.out.e.g (NX.out.2.2.1 _)); have y1 := cell_of_one (hB.row P14.out.y1 (NX.out.2.1 _)); have y2 := cell_of_one (hB.row P14.out.y2 (NX.out.2.1 _)); have y3 := cell_of_one (hB.row P14.out.y3 (NX.out.2.1 _)); have y4 := cell_of_one (hB.row P14.out.y4 (NX.out.2.1 _)); have y5 := cell_of_one (hB.row P14.out.y5 (NX.out.2.1 _)); have y6 := cell_of_one (hB.row P14.out.y6 (NX.out.2.1 _)); (go_simp <;> with_reducible rfl)
    try simp only [Act.put, zA, zB, zC]
    refine tk (i := 6) (oi := ⟨some 85, _, _, _, _, _⟩) (v := ?_) rfl (Or.inl ⟨by rfl, ?_⟩) hS ?_
    rotate_left 1
    · intro w' hB; have g1 := cell_of_one (hB.row F14.out.e.g (NX.out.2.2.1 _)); have y1 := cell_of_one (hB.row P14.out.y1 (NX.out.2.1 _)); have y2 := cell_of_one (hB.row P14.out.y2 (NX.out.2.1 _)); have y3 := cell_of_one (hB.row P14.out.y3 (NX.out.2.1 _)); have y4 := cell_of_one (hB.row P14.out.y4 (NX.out.2.1 _)); have y5 := cell_of_one (hB.row P14.out.y5 (NX.out.2.1 _)); have y6 := cell_of_one (hB.row P14.out.y6 (NX.out.2.1 _)); (go_simp <;> with_reducible rfl)
    try simp only [Act.put, zA, zB, zC]
    refine tk (i := 7) (oi := ⟨some 86, _, _, _, _, _⟩) (v := ?_) rfl (Or.inl ⟨by rfl, ?_⟩) hS ?_
    rotate_left 1
    · intro w' hB; have g1 := cell_of_one (hB.row F14.out.e.g (NX.out.2.2.1 _)); have y1 := cell_of_one (hB.row P14.out.y1 (NX.out.2.1 _)); have y2 := cell_of_one (hB.row P14.out.y2 (NX.out.2.1 _)); have y3 := cell_of_one (hB.row P14.out.y3 (NX.out.2.1 _)); have y4 := cell_of_one (hB.row P14.out.y4 (NX.out.2.1 _)); have y5 := cell_of_one (hB.row P14.out.y5 (NX.out.2.1 _)); have y6 := cell_of_one (hB.row P14.out.y6 (NX.out.2.1 _)); (go_simp <;> with_reducible rfl)
    try simp only [Act.put, zA, zB, zC]
    refine tk (i := 8) (oi := ⟨some 87, _, _, _, _, _⟩) (v := ?_) rfl (Or.inl ⟨by rfl, ?_⟩) hS ?_
    rotate_left 1
    · intro w' hB; have g1 := cell_of_one (hB.row F14.out.e.g (NX.out.2.2.1 _)); have y1 := cell_of_one (hB.row P14.out.y1 (NX.out.2.1 _)); have y2 := cell_of_one (hB.row P14.out.y2 (NX.out.2.1 _)); have y3 := cell_of_one (hB.row P14.out.y3 (NX.out.2.1 _)); have y4 := cell_of_one (hB.row P14.out.y4 (NX.out.2.1 _)); have y5 := cell_of_one (hB.row P14.out.y5 (NX.out.2.1 _)); have y6 := cell_of_one (hB.row P14.out.y6 (NX.out.2.1 _)); (go_simp <;> with_reducible rfl)
    try simp only [Act.put, zA, zB, zC]
    refine wpAnyH_ready (rs := [4, 10, 11]) (by kernel_rfl) (by simp) (AllReadyH.cons (o := ⟨some 83, _, _, _, _, _⟩) rfl (fun K hK => ?way3) (AllReadyH.cons (o := ⟨some 23, _, _, _, _, _⟩) rfl (fun K hK => ?way2) (AllReadyH.cons (o := ⟨some 24, _, _, _, _, _⟩) rfl (fun K hK => ?way1) AllReadyH.nil)))
    case' way3 =>
     go_simp
     refine (IH.out _ sl al ol xs (rd + 1) ru _ (Nat.le_trans hzw hS.size) (by omega) (by omega) (by omega) (by omega) (by omega) HWI.out.1 (ENV.out _ hS).1 HX.out.2 HX.out.1 hxr).mono ?_
     rintro e w15 ⟨ml, as1, rfl, ho, hm, hi, hc, hb, _⟩
     refine hK.out _ _ (hS.trans (hb)) (fun _ => ?_)
     clear hK K
     replace hS := hS.trans (hb)
     have O1 := Lib.hid ho
     have M1 := Lib.hid hm
     replace HX := Lib.hid (And.intro hi hc)
     (try replace XA := Lib.hid (hb.row XA.out (NX.out.2.1 _)))
     (try replace XB := Lib.hid (hb.row XB.out (NX.out.2.1 _)))
     clear ho hm hi hc
     clear hb
     try simp only [Act.put, zA, zB, zC]
     refine wpAnyH_ready (rs := [9, 10, 11]) (by kernel_rfl) (by simp) (AllReadyH.cons (o := ⟨some 88, _, _, _, _, _⟩) rfl (fun K hK => ?way6) (AllReadyH.cons (o := ⟨some 23, _, _, _, _, _⟩) rfl (fun K hK => ?way5) (AllReadyH.cons (o := ⟨some 24, _, _, _, _, _⟩) rfl (fun K hK => ?way4) AllReadyH.nil)))
     case' way6 =>
      go_simp
      refine (IH.out _ sr ar or' (xs ++ as1) (rd + 1 + as1.length) (ru + as1.length) _ (Nat.le_trans hzw hS.size) (by omega) (by omega) (by omega) (by have := O1.out.len; omega) (by have := O1.out.len; omega) HWI.out.2 (ENV.out _ hS).2 HX.out.2 HX.out.1 (by rw [List.length_append]; omega)).mono ?_
      rintro e w16 ⟨mr, as2, rfl, ho, hm, hi, hc, hb, _⟩
      refine hK.out _ _ (hS.trans (hb)) (fun _ => ?_)
      clear hK K
      replace hS := hS.trans (hb)
      have O2 := Lib.hid ho
      have M2 := Lib.hid hm
      replace M1 := Lib.hid (M1.out.keepX hb NX.out.1)
      replace HX := Lib.hid (And.intro hi hc)
      (try replace XA := Lib.hid (hb.row XA.out (NX.out.2.1 _)))
      (try replace XB := Lib.hid (hb.row XB.out (NX.out.2.1 _)))
      clear ho hm hi hc
      clear hb
      try simp only [Act.put, zA, zB, zC]
      refine wpAnyH_ready (rs := [10, 11]) (by kernel_rfl) (by simp) (AllReadyH.cons (o := ⟨some 23, _, _, _, _, _⟩) rfl (fun K hK => ?way8) (AllReadyH.cons (o := ⟨some 24, _, _, _, _, _⟩) rfl (fun K hK => ?way7) AllReadyH.nil))
      case' way8 =>
       go_simp
       refine hK.out _ _ (hS.alloc _) (fun _ => ?_)
       clear hK K
       refine wpAnyH_madeX hS ?_
       have hS0 := hS
       clear hS
       rintro w20 hw hS
       obtain ⟨cA, hcA, hxA⟩ := made_at8S hw
       have GA : Hid (w14.heap.size ≤ cA) := Lib.hid (by have h2 := hS0.size; rw [hcA] at h2; exact h2)
       (try have NE : Hid (cA ≠ cB) := Lib.hid (by have h2 := (Array.getElem?_eq_some_iff.1 XB.out).1; rw [hcA] at h2; omega))
       (try simp at hcA)
       rw [hcA]
       (try replace XB := Lib.hid (boxStays XB.out (show Below _ _ w20 by rw [hw]; exact below_new _ _)))
       have XA : Hid (Boxed w20 cA 27 (.pointer none)) := Lib.hid hxA
       (try replace M1 := Lib.hid (M1.out.below (show Below _ _ w20 by rw [hw]; exact below_new _ _) rfl))
       (try replace M2 := Lib.hid (M2.out.below (show Below _ _ w20 by rw [hw]; exact below_new _ _) rfl))
       replace HX := Lib.hid (And.intro (HR.out.own _ _ _ HX.out.1 (KeepX.ofBelow (show Below _ _ w20 by rw [hw]; exact below_new _ _))) (HX.out.2.below (show Below _ _ w20 by rw [hw]; exact below_new _ _)))
       clear hcA hxA
       clear hw hS0
       try simp only [Act.put, zA, zB, zC]
       refine wpAnyH_ready (rs := [11]) (by kernel_rfl) (by simp) (AllReadyH.cons (o := ⟨some 24, _, _, _, _, _⟩) rfl (fun K hK => ?_) AllReadyH.nil)
       go_simp
       refine hK.out _ _ (hS.alloc _) (fun _ => ?_)
       clear hK K
       refine wpAnyH_madeX hS ?_
       have hS0 := hS
       clear hS
       rintro w20 hw hS
       obtain ⟨cB, hcB, hxB⟩ := made_at8S hw
       have GB : Hid (w14.heap.size ≤ cB) := Lib.hid (by have h2 := hS0.size; rw [hcB] at h2; exact h2)
       (try have NE : Hid (cA ≠ cB) := Lib.hid (by have h2 := (Array.getElem?_eq_some_iff.1 XA.out).1; rw [hcB] at h2; omega))
       (try simp at hcB)
       rw [hcB]
       (try replace XA := Lib.hid (boxStays XA.out (show Below _ _ w20 by rw [hw]; exact below_new _ _)))
       have XB : Hid (Boxed w20 cB 27 (.pointer none)) := Lib.hid hxB
       (try replace M1 := Lib.hid (M1.out.below (show Below _ _ w20 by rw [hw]; exact below_new _ _) rfl))
       (try replace M2 := Lib.hid (M2.out.below (show Below _ _ w20 by rw [hw]; exact below_new _ _) rfl))
       replace HX := Lib.hid (And.intro (HR.out.own _ _ _ HX.out.1 (KeepX.ofBelow (show Below _ _ w20 by rw [hw]; exact below_new _ _))) (HX.out.2.below (show Below _ _ w20 by rw [hw]; exact below_new _ _)))
       clear hcB hxB
       clear hw hS0
       try simp only [Act.put, zA, zB, zC]
       refine wpAnyH_ready (rs := [12]) (by kernel_rfl) (by simp) (AllReadyH.cons (o := ⟨none, _, _, _, _, _⟩) rfl (fun K hK => ?_) AllReadyH.nil)
       have kA := cell_of_one XA.out
       have fA := frozen_of_row _ cA 0 _ _ XA.out
       replace hS := hS.setNew GA.out 0 (Value.pointer (pa ml))
       have hI2 := HR.out.own _ _ _ HX.out.1 (KeepX.setRow (KeepX.refl _) XA.out ⟨Nat.le_trans hzw GA.out, Or.inr rfl⟩ 0 (Value.pointer (pa ml)))
       have hC2 := HX.out.2.box XA.out (Value.pointer (pa ml))
       replace M1 := Lib.hid (M1.out.setBox XA.out (by decide) 0 (Value.pointer (pa ml)))
       replace M2 := Lib.hid (M2.out.setBox XA.out (by decide) 0 (Value.pointer (pa ml)))
       replace XB := Lib.hid (Boxed.other (t := 27) (v := (.pointer none)) XB.out (Ne.symm NE.out) (Value.pointer (pa ml)))
       replace XA := Lib.hid (Boxed.set (t := 27) (v := (.pointer none)) (Value.pointer (pa ml)) XA.out)
       go_simp
       refine hK.out _ _ hS (fun _ => ?_)
       clear hK K kA fA
       replace HX := Lib.hid (And.intro hI2 hC2)
       clear hI2 hC2
       try simp only [Act.put, zA, zB, zC]
       refine wpAnyH_ready (rs := [13]) (by kernel_rfl) (by simp) (AllReadyH.cons (o := ⟨none, _, _, _, _, _⟩) rfl (fun K hK => ?_) AllReadyH.nil)
       have kA := cell_of_one XB.out
       have fA := frozen_of_row _ cB 0 _ _ XB.out
       replace hS := hS.setNew GB.out 0 (Value.pointer (pa mr))
       have hI2 := HR.out.own _ _ _ HX.out.1 (KeepX.setRow (KeepX.refl _) XB.out ⟨Nat.le_trans hzw GB.out, Or.inr rfl⟩ 0 (Value.pointer (pa mr)))
       have hC2 := HX.out.2.box XB.out (Value.pointer (pa mr))
       replace M1 := Lib.hid (M1.out.setBox XB.out (by decide) 0 (Value.pointer (pa mr)))
       replace M2 := Lib.hid (M2.out.setBox XB.out (by decide) 0 (Value.pointer (pa mr)))
       replace XA := Lib.hid (Boxed.other (t := 27) (v := (.pointer (pa ml))) XA.out NE.out (Value.pointer (pa mr)))
       replace XB := Lib.hid (Boxed.set (t := 27) (v := (.pointer none)) (Value.pointer (pa mr)) XB.out)
       go_simp
       refine hK.out _ _ hS (fun _ => ?_)
       clear hK K kA fA
       replace HX := Lib.hid (And.intro hI2 hC2)
       clear hI2 hC2
       try simp only [Act.put, zA, zB, zC]
       refine wpAnyH_done (by kernel_rfl) (NoPanic.normal ?_) _
      case' way7 =>
       go_simp
       refine hK.out _ _ (hS.alloc _) (fun _ => ?_)
       clear hK K
       refine wpAnyH_madeX hS ?_
       have hS0 := hS
       clear hS
       rintro w20 hw hS
       obtain ⟨cB, hcB, hxB⟩ := made_at8S hw
       have GB : Hid (w14.heap.size ≤ cB) := Lib.hid (by have h2 := hS0.size; rw [hcB] at h2; exact h2)
       (try have NE : Hid (cA ≠ cB) := Lib.hid (by have h2 := (Array.getElem?_eq_some_iff.1 XA.out).1; rw [hcB] at h2; omega))
       (try simp at hcB)
       rw [hcB]
       (try replace XA := Lib.hid (boxStays XA.out (show Below _ _ w20 by rw [hw]; exact below_new _ _)))
       have XB : Hid (Boxed w20 cB 27 (.pointer none)) := Lib.hid hxB
       (try replace M1 := Lib.hid (M1.out.below (show Below _ _ w20 by rw [hw]; exact below_new _ _) rfl))
       (try replace M2 := Lib.hid (M2.out.below (show Below _ _ w20 by rw [hw]; exact below_new _ _) rfl))
       replace HX := Lib.hid (And.intro (HR.out.own _ _ _ HX.out.1 (KeepX.ofBelow (show Below _ _ w20 by rw [hw]; exact below_new _ _))) (HX.out.2.below (show Below _ _ w20 by rw [hw]; exact below_new _ _)))
       clear hcB hxB
       clear hw hS0
       try simp only [Act.put, zA, zB, zC]
       refine wpAnyH_ready (rs := [10]) (by kernel_rfl) (by simp) (AllReadyH.cons (o := ⟨some 23, _, _, _, _, _⟩) rfl (fun K hK => ?_) AllReadyH.nil)
       go_simp
       refine hK.out _ _ (hS.alloc _) (fun _ => ?_)
       clear hK K
       refine wpAnyH_madeX hS ?_
       have hS0 := hS
       clear hS
       rintro w20 hw hS
       obtain ⟨cA, hcA, hxA⟩ := made_at8S hw
       have GA : Hid (w14.heap.size ≤ cA) := Lib.hid (by have h2 := hS0.size; rw [hcA] at h2; exact h2)
       (try have NE : Hid (cA ≠ cB) := Lib.hid (by have h2 := (Array.getElem?_eq_some_iff.1 XB.out).1; rw [hcA] at h2; omega))
       (try simp at hcA)
       rw [hcA]
       (try replace XB := Lib.hid (boxStays XB.out (show Below _ _ w20 by rw [hw]; exact below_new _ _)))
       have XA : Hid (Boxed w20 cA 27 (.pointer none)) := Lib.hid hxA
       (try replace M1 := Lib.hid (M1.out.below (show Below _ _ w20 by rw [hw]; exact below_new _ _) rfl))
       (try replace M2 := Lib.hid (M2.out.below (show Below _ _ w20 by rw [hw]; exact below_new _ _) rfl))
       replace HX := Lib.hid (And.intro (HR.out.own _ _ _ HX.out.1 (KeepX.ofBelow (show Below _ _ w20 by rw [hw]; exact below_new _ _))) (HX.out.2.below (show Below _ _ w20 by rw [hw]; exact below_new _ _)))
       clear hcA hxA
       clear hw hS0
       try simp only [Act.put, zA, zB, zC]
       refine wpAnyH_ready (rs := [12]) (by kernel_rfl) (by simp) (AllReadyH.cons (o := ⟨none, _, _, _, _, _⟩) rfl (fun K hK => ?_) AllReadyH.nil)
       have kA := cell_of_one XA.out
       have fA := frozen_of_row _ cA 0 _ _ XA.out
       replace hS := hS.setNew GA.out 0 (Value.pointer (pa ml))
       have hI2 := HR.out.own _ _ _ HX.out.1 (KeepX.setRow (KeepX.refl _) XA.out ⟨Nat.le_trans hzw GA.out, Or.inr rfl⟩ 0 (Value.pointer (pa ml)))
       have hC2 := HX.out.2.box XA.out (Value.pointer (pa ml))
       replace M1 := Lib.hid (M1.out.setBox XA.out (by decide) 0 (Value.pointer (pa ml)))
       replace M2 := Lib.hid (M2.out.setBox XA.out (by decide) 0 (Value.pointer (pa ml)))
       replace XB := Lib.hid (Boxed.other (t := 27) (v := (.pointer none)) XB.out (Ne.symm NE.out) (Value.pointer (pa ml)))
       replace XA := Lib.hid (Boxed.set (t := 27) (v := (.pointer none)) (Value.pointer (pa ml)) XA.out)
       go_simp
       refine hK.out _ _ hS (fun _ => ?_)
       clear hK K kA fA
       replace HX := Lib.hid (And.intro hI2 hC2)
       clear hI2 hC2
       try simp only [Act.put, zA, zB, zC]
       refine wpAnyH_ready (rs := [13]) (by kernel_rfl) (by simp) (AllReadyH.cons (o := ⟨none, _, _, _, _, _⟩) rfl (fun K hK => ?_) AllReadyH.nil)
       have kA := cell_of_one XB.out
       have fA := frozen_of_row _ cB 0 _ _ XB.out
       replace hS := hS.setNew GB.out 0 (Value.pointer (pa mr))
       have hI2 := HR.out.own _ _ _ HX.out.1 (KeepX.setRow (KeepX.refl _) XB.out ⟨Nat.le_trans hzw GB.out, Or.inr rfl⟩ 0 (Value.pointer (pa mr)))
       have hC2 := HX.out.2.box XB.out (Value.pointer (pa mr))
       replace M1 := Lib.hid (M1.out.setBox XB.out (by decide) 0 (Value.pointer (pa mr)))
       replace M2 := Lib.hid (M2.out.setBox XB.out (by decide) 0 (Value.pointer (pa mr)))
       replace XA := Lib.hid (Boxed.other (t := 27) (v := (.pointer (pa ml))) XA.out NE.out (Value.pointer (pa mr)))
       replace XB := Lib.hid (Boxed.set (t := 27) (v := (.pointer none)) (Value.pointer (pa mr)) XB.out)
       go_simp
       refine hK.out _ _ hS (fun _ => ?_)
       clear hK K kA fA
       replace HX := Lib.hid (And.intro hI2 hC2)
       clear hI2 hC2
       try simp only [Act.put, zA, zB, zC]
       refine wpAnyH_done (by kernel_rfl) (NoPanic.normal ?_) _
     case' way5 =>
      go_simp
      refine hK.out _ _ (hS.alloc _) (fun _ => ?_)
      clear hK K
      refine wpAnyH_madeX hS ?_
      have hS0 := hS
      clear hS
      rintro w20 hw hS
      obtain ⟨cA, hcA, hxA⟩ := made_at8S hw
      have GA : Hid (w14.heap.size ≤ cA) := Lib.hid (by have h2 := hS0.size; rw [hcA] at h2; exact h2)
      (try have NE : Hid (cA ≠ cB) := Lib.hid (by have h2 := (Array.getElem?_eq_some_iff.1 XB.out).1; rw [hcA] at h2; omega))
      (try simp at hcA)
      rw [hcA]
      (try replace XB := Lib.hid (boxStays XB.out (show Below _ _ w20 by rw [hw]; exact below_new _ _)))
      have XA : Hid (Boxed w20 cA 27 (.pointer none)) := Lib.hid hxA
      (try replace M1 := Lib.hid (M1.out.below (show Below _ _ w20 by rw [hw]; exact below_new _ _) rfl))
      (try replace M2 := Lib.hid (M2.out.below (show Below _ _ w20 by rw [hw]; exact below_new _ _) rfl))
      replace HX := Lib.hid (And.intro (HR.out.own _ _ _ HX.out.1 (KeepX.ofBelow (show Below _ _ w20 by rw [hw]; exact below_new _ _))) (HX.out.2.below (show Below _ _ w20 by rw [hw]; exact below_new _ _)))
      clear hcA hxA
      clear hw hS0
      try simp only [Act.put, zA, zB, zC]
      refine wpAnyH_ready (rs := [9, 11]) (by kernel_rfl) (by simp) (AllReadyH.cons (o := ⟨some 88, _, _, _, _, _⟩) rfl (fun K hK => ?way10) (AllReadyH.cons (o := ⟨some 24, _, _, _, _, _⟩) rfl (fun K hK => ?way9) AllReadyH.nil))
      case' way10 =>
       go_simp
       refine (IH.out _ sr ar or' (xs ++ as1) (rd + 1 + as1.length) (ru + as1.length) _ (Nat.le_trans hzw hS.size) (by omega) (by omega) (by omega) (by have := O1.out.len; omega) (by have := O1.out.len; omega) HWI.out.2 (ENV.out _ hS).2 HX.out.2 HX.out.1 (by rw [List.length_append]; omega)).mono ?_
       rintro e w16 ⟨mr, as2, rfl, ho, hm, hi, hc, hb, _⟩
       refine hK.out _ _ (hS.trans (hb)) (fun _ => ?_)
       clear hK K
       replace hS := hS.trans (hb)
       have O2 := Lib.hid ho
       have M2 := Lib.hid hm
       replace M1 := Lib.hid (M1.out.keepX hb NX.out.1)
       replace HX := Lib.hid (And.intro hi hc)
       (try replace XA := Lib.hid (hb.row XA.out (NX.out.2.1 _)))
       (try replace XB := Lib.hid (hb.row XB.out (NX.out.2.1 _)))
       clear ho hm hi hc
       clear hb
       try simp only [Act.put, zA, zB, zC]
       refine wpAnyH_ready (rs := [11]) (by kernel_rfl) (by simp) (AllReadyH.cons (o := ⟨some 24, _, _, _, _, _⟩) rfl (fun K hK => ?_) AllReadyH.nil)
       go_simp
       refine hK.out _ _ (hS.alloc _) (fun _ => ?_)
       clear hK K
       refine wpAnyH_madeX hS ?_
       have hS0 := hS
       clear hS
       rintro w20 hw hS
       obtain ⟨cB, hcB, hxB⟩ := made_at8S hw
       have GB : Hid (w14.heap.size ≤ cB) := Lib.hid (by have h2 := hS0.size; rw [hcB] at h2; exact h2)
       (try have NE : Hid (cA ≠ cB) := Lib.hid (by have h2 := (Array.getElem?_eq_some_iff.1 XA.out).1; rw [hcB] at h2; omega))
       (try simp at hcB)
       rw [hcB]
       (try replace XA := Lib.hid (boxStays XA.out (show Below _ _ w20 by rw [hw]; exact below_new _ _)))
       have XB : Hid (Boxed w20 cB 27 (.pointer none)) := Lib.hid hxB
       (try replace M1 := Lib.hid (M1.out.below (show Below _ _ w20 by rw [hw]; exact below_new _ _) rfl))
       (try replace M2 := Lib.hid (M2.out.below (show Below _ _ w20 by rw [hw]; exact below_new _ _) rfl))
       replace HX := Lib.hid (And.intro (HR.out.own _ _ _ HX.out.1 (KeepX.ofBelow (show Below _ _ w20 by rw [hw]; exact below_new _ _))) (HX.out.2.below (show Below _ _ w20 by rw [hw]; exact below_new _ _)))
       clear hcB hxB
       clear hw hS0
       try simp only [Act.put, zA, zB, zC]
       refine wpAnyH_ready (rs := [12]) (by kernel_rfl) (by simp) (AllReadyH.cons (o := ⟨none, _, _, _, _, _⟩) rfl (fun K hK => ?_) AllReadyH.nil)
       have kA := cell_of_one XA.out
       have fA := frozen_of_row _ cA 0 _ _ XA.out
       replace hS := hS.setNew GA.out 0 (Value.pointer (pa ml))
       have hI2 := HR.out.own _ _ _ HX.out.1 (KeepX.setRow (KeepX.refl _) XA.out ⟨Nat.le_trans hzw GA.out, Or.inr rfl⟩ 0 (Value.pointer (pa ml)))
       have hC2 := HX.out.2.box XA.out (Value.pointer (pa ml))
       replace M1 := Lib.hid (M1.out.setBox XA.out (by decide) 0 (Value.pointer (pa ml)))
       replace M2 := Lib.hid (M2.out.setBox XA.out (by decide) 0 (Value.pointer (pa ml)))
       replace XB := Lib.hid (Boxed.other (t := 27) (v := (.pointer none)) XB.out (Ne.symm NE.out) (Value.pointer (pa ml)))
       replace XA := Lib.hid (Boxed.set (t := 27) (v := (.pointer none)) (Value.pointer (pa ml)) XA.out)
       go_simp
       refine hK.out _ _ hS (fun _ => ?_)
       clear hK K kA fA
       replace HX := Lib.hid (And.intro hI2 hC2)
       clear hI2 hC2
       try simp only [Act.put, zA, zB, zC]
       refine wpAnyH_ready (rs := [13]) (by kernel_rfl) (by simp) (AllReadyH.cons (o := ⟨none, _, _, _, _, _⟩) rfl (fun K hK => ?_) AllReadyH.nil)
       have kA := cell_of_one XB.out
       have fA := frozen_of_row _ cB 0 _ _ XB.out
       replace hS := hS.setNew GB.out 0 (Value.pointer (pa mr))
       have hI2 := HR.out.own _ _ _ HX.out.1 (KeepX.setRow (KeepX.refl _) XB.out ⟨Nat.le_trans hzw GB.out, Or.inr rfl⟩ 0 (Value.pointer (pa mr)))
       have hC2 := HX.out.2.box XB.out (Value.pointer (pa mr))
       replace M1 := Lib.hid (M1.out.setBox XB.out (by decide) 0 (Value.pointer (pa mr)))
       replace M2 := Lib.hid (M2.out.setBox XB.out (by decide) 0 (Value.pointer (pa mr)))
       replace XA := Lib.hid (Boxed.other (t := 27) (v := (.pointer (pa ml))) XA.out NE.out (Value.pointer (pa mr)))
       replace XB := Lib.hid (Boxed.set (t := 27) (v := (.pointer none)) (Value.pointer (pa mr)) XB.out)
       go_simp
       refine hK.out _ _ hS (fun _ => ?_)
       clear hK K kA fA
       replace HX := Lib.hid (And.intro hI2 hC2)
       clear hI2 hC2
       try simp only [Act.put, zA, zB, zC]
       refine wpAnyH_done (by kernel_rfl) (NoPanic.normal ?_) _
      case' way9 =>
       go_simp
       refine hK.out _ _ (hS.alloc _) (fun _ => ?_)
       clear hK K
       refine wpAnyH_madeX hS ?_
       have hS0 := hS
       clear hS
       rintro w20 hw hS
       obtain ⟨cB, hcB, hxB⟩ := made_at8S hw
       have GB : Hid (w14.heap.size ≤ cB) := Lib.hid (by have h2 := hS0.size; rw [hcB] at h2; exact h2)
       (try have NE : Hid (cA ≠ cB) := Lib.hid (by have h2 := (Array.getElem?_eq_some_iff.1 XA.out).1; rw [hcB] at h2; omega))
       (try simp at hcB)
       rw [hcB]
       (try replace XA := Lib.hid (boxStays XA.out (show Below _ _ w20 by rw [hw]; exact below_new _ _)))
       have XB : Hid (Boxed w20 cB 27 (.pointer none)) := Lib.hid hxB
       (try replace M1 := Lib.hid (M1.out.below (show Below _ _ w20 by rw [hw]; exact below_new _ _) rfl))
       (try replace M2 := Lib.hid (M2.out.below (show Below _ _ w20 by rw [hw]; exact below_new _ _) rfl))
       replace HX := Lib.hid (And.intro (HR.out.own _ _ _ HX.out.1 (KeepX.ofBelow (show Below _ _ w20 by rw [hw]; exact below_new _ _))) (HX.out.2.below (show Below _ _ w20 by rw [hw]; exact below_new _ _)))
       clear hcB hxB
       clear hw hS0
       try simp only [Act.put, zA, zB, zC]
       refine wpAnyH_ready (rs := [9]) (by kernel_rfl) (by simp) (AllReadyH.cons (o := ⟨some 88, _, _, _, _, _⟩) rfl (fun K hK => ?_) AllReadyH.nil)
       go_simp
       refine (IH.out _ sr ar or' (xs ++ as1) (rd + 1 + as1.length) (ru + as1.length) _ (Nat.le_trans hzw hS.size) (by omega) (by omega) (by omega) (by have := O1.out.len; omega) (by have := O1.out.len; omega) HWI.out.2 (ENV.out _ hS).2 HX.out.2 HX.out.1 (by rw [List.length_append]; omega)).mono ?_
       rintro e w16 ⟨mr, as2, rfl, ho, hm, hi, hc, hb, _⟩
       refine hK.out _ _ (hS.trans (hb)) (fun _ => ?_)
       clear hK K
       replace hS := hS.trans (hb)
       have O2 := Lib.hid ho
       have M2 := Lib.hid hm
       replace M1 := Lib.hid (M1.out.keepX hb NX.out.1)
       replace HX := Lib.hid (And.intro hi hc)
       (try replace XA := Lib.hid (hb.row XA.out (NX.out.2.1 _)))
       (try replace XB := Lib.hid (hb.row XB.out (NX.out.2.1 _)))
       clear ho hm hi hc
       clear hb
       try simp only [Act.put, zA, zB, zC]
       refine wpAnyH_ready (rs := [12]) (by kernel_rfl) (by simp) (AllReadyH.cons (o := ⟨none, _, _, _, _, _⟩) rfl (fun K hK => ?_) AllReadyH.nil)
       have kA := cell_of_one XA.out
       have fA := frozen_of_row _ cA 0 _ _ XA.out
       replace hS := hS.setNew GA.out 0 (Value.pointer (pa ml))
       have hI2 := HR.out.own _ _ _ HX.out.1 (KeepX.setRow (KeepX.refl _) XA.out ⟨Nat.le_trans hzw GA.out, Or.inr rfl⟩ 0 (Value.pointer (pa ml)))
       have hC2 := HX.out.2.box XA.out (Value.pointer (pa ml))
       replace M1 := Lib.hid (M1.out.setBox XA.out (by decide) 0 (Value.pointer (pa ml)))
       replace M2 := Lib.hid (M2.out.setBox XA.out (by decide) 0 (Value.pointer (pa ml)))
       replace XB := Lib.hid (Boxed.other (t := 27) (v := (.pointer none)) XB.out (Ne.symm NE.out) (Value.pointer (pa ml)))
       replace XA := Lib.hid (Boxed.set (t := 27) (v := (.pointer none)) (Value.pointer (pa ml)) XA.out)
       go_simp
       refine hK.out _ _ hS (fun _ => ?_)
       clear hK K kA fA
       replace HX := Lib.hid (And.intro hI2 hC2)
       clear hI2 hC2
       try simp only [Act.put, zA, zB, zC]
       refine wpAnyH_ready (rs := [13]) (by kernel_rfl) (by simp) (AllReadyH.cons (o := ⟨none, _, _, _, _, _⟩) rfl (fun K hK => ?_) AllReadyH.nil)
       have kA := cell_of_one XB.out
       have fA := frozen_of_row _ cB 0 _ _ XB.out
       replace hS := hS.setNew GB.out 0 (Value.pointer (pa mr))
       have hI2 := HR.out.own _ _ _ HX.out.1 (KeepX.setRow (KeepX.refl _) XB.out ⟨Nat.le_trans hzw GB.out, Or.inr rfl⟩ 0 (Value.pointer (pa mr)))
       have hC2 := HX.out.2.box XB.out (Value.pointer (pa mr))
       replace M1 := Lib.hid (M1.out.setBox XB.out (by decide) 0 (Value.pointer (pa mr)))
       replace M2 := Lib.hid (M2.out.setBox XB.out (by decide) 0 (Value.pointer (pa mr)))
       replace XA := Lib.hid (Boxed.other (t := 27) (v := (.pointer (pa ml))) XA.out NE.out (Value.pointer (pa mr)))
       replace XB := Lib.hid (Boxed.set (t := 27) (v := (.pointer none)) (Value.pointer (pa mr)) XB.out)
       go_simp
       refine hK.out _ _ hS (fun _ => ?_)
       clear hK K kA fA
       replace HX := Lib.hid (And.intro hI2 hC2)
       clear hI2 hC2
       try simp only [Act.put, zA, zB, zC]
       refine wpAnyH_done (by kernel_rfl) (NoPanic.normal ?_) _
     case' way4 =>
      go_simp
      refine hK.out _ _ (hS.alloc _) (fun _ => ?_)
      clear hK K
      refine wpAnyH_madeX hS ?_
      have hS0 := hS
      clear hS
      rintro w20 hw hS
      obtain ⟨cB, hcB, hxB⟩ := made_at8S hw
      have GB : Hid (w14.heap.size ≤ cB) := Lib.hid (by have h2 := hS0.size; rw [hcB] at h2; exact h2)
      (try have NE : Hid (cA ≠ cB) := Lib.hid (by have h2 := (Array.getElem?_eq_some_iff.1 XA.out).1; rw [hcB] at h2; omega))
      (try simp at hcB)
      rw [hcB]
      (try replace XA := Lib.hid (boxStays XA.out (show Below _ _ w20 by rw [hw]; exact below_new _ _)))
      have XB : Hid (Boxed w20 cB 27 (.pointer none)) := Lib.hid hxB
      (try replace M1 := Lib.hid (M1.out.below (show Below _ _ w20 by rw [hw]; exact below_new _ _) rfl))
      (try replace M2 := Lib.hid (M2.out.below (show Below _ _ w20 by rw [hw]; exact below_new _ _) rfl))
      replace HX := Lib.hid (And.intro (HR.out.own _ _ _ HX.out.1 (KeepX.ofBelow (show Below _ _ w20 by rw [hw]; exact below_new _ _))) (HX.out.2.below (show Below _ _ w20 by rw [hw]; exact below_new _ _)))
      clear hcB hxB
      clear hw hS0
      try simp only [Act.put, zA, zB, zC]
      refine wpAnyH_ready (rs := [9, 10]) (by kernel_rfl) (by simp) (AllReadyH.cons (o := ⟨some 88, _, _, _, _, _⟩) rfl (fun K hK => ?way12) (AllReadyH.cons (o := ⟨some 23, _, _, _, _, _⟩) rfl (fun K hK => ?way11) AllReadyH.nil))
      case' way12 =>
       go_simp
       refine (IH.out _ sr ar or' (xs ++ as1) (rd + 1 + as1.length) (ru + as1.length) _ (Nat.le_trans hzw hS.size) (by omega) (by omega) (by omega) (by have := O1.out.len; omega) (by have := O1.out.len; omega) HWI.out.2 (ENV.out _ hS).2 HX.out.2 HX.out.1 (by rw [List.length_append]; omega)).mono ?_
       rintro e w16 ⟨mr, as2, rfl, ho, hm, hi, hc, hb, _⟩
       refine hK.out _ _ (hS.trans (hb)) (fun _ => ?_)
       clear hK K
       replace hS := hS.trans (hb)
       have O2 := Lib.hid ho
       have M2 := Lib.hid hm
       replace M1 := Lib.hid (M1.out.keepX hb NX.out.1)
       replace HX := Lib.hid (And.intro hi hc)
       (try replace XA := Lib.hid (hb.row XA.out (NX.out.2.1 _)))
       (try replace XB := Lib.hid (hb.row XB.out (NX.out.2.1 _)))
       clear ho hm hi hc
       clear hb
       try simp only [Act.put, zA, zB, zC]
       refine wpAnyH_ready (rs := [10]) (by kernel_rfl) (by simp) (AllReadyH.cons (o := ⟨some 23, _, _, _, _, _⟩) rfl (fun K hK => ?_) AllReadyH.nil)
       go_simp
       refine hK.out _ _ (hS.alloc _) (fun _ => ?_)
       clear hK K
       refine wpAnyH_madeX hS ?_
       have hS0 := hS
       clear hS
       rintro w20 hw hS
       obtain ⟨cA, hcA, hxA⟩ := made_at8S hw
       have GA : Hid (w14.heap.size ≤ cA) := Lib.hid (by have h2 := hS0.size; rw [hcA] at h2; exact h2)
       (try have NE : Hid (cA ≠ cB) := Lib.hid (by have h2 := (Array.getElem?_eq_some_iff.1 XB.out).1; rw [hcA] at h2; omega))
       (try simp at hcA)
       rw [hcA]
       (try replace XB := Lib.hid (boxStays XB.out (show Below _ _ w20 by rw [hw]; exact below_new _ _)))
       have XA : Hid (Boxed w20 cA 27 (.pointer none)) := Lib.hid hxA
       (try replace M1 := Lib.hid (M1.out.below (show Below _ _ w20 by rw [hw]; exact below_new _ _) rfl))
       (try replace M2 := Lib.hid (M2.out.below (show Below _ _ w20 by rw [hw]; exact below_new _ _) rfl))
       replace HX := Lib.hid (And.intro (HR.out.own _ _ _ HX.out.1 (KeepX.ofBelow (show Below _ _ w20 by rw [hw]; exact below_new _ _))) (HX.out.2.below (show Below _ _ w20 by rw [hw]; exact below_new _ _)))
       clear hcA hxA
       clear hw hS0
       try simp only [Act.put, zA, zB, zC]
       refine wpAnyH_ready (rs := [12]) (by kernel_rfl) (by simp) (AllReadyH.cons (o := ⟨none, _, _, _, _, _⟩) rfl (fun K hK => ?_) AllReadyH.nil)
       have kA := cell_of_one XA.out
       have fA := frozen_of_row _ cA 0 _ _ XA.out
       replace hS := hS.setNew GA.out 0 (Value.pointer (pa ml))
       have hI2 := HR.out.own _ _ _ HX.out.1 (KeepX.setRow (KeepX.refl _) XA.out ⟨Nat.le_trans hzw GA.out, Or.inr rfl⟩ 0 (Value.pointer (pa ml)))
       have hC2 := HX.out.2.box XA.out (Value.pointer (pa ml))
       replace M1 := Lib.hid (M1.out.setBox XA.out (by decide) 0 (Value.pointer (pa ml)))
       replace M2 := Lib.hid (M2.out.setBox XA.out (by decide) 0 (Value.pointer (pa ml)))
       replace XB := Lib.hid (Boxed.other (t := 27) (v := (.pointer none)) XB.out (Ne.symm NE.out) (Value.pointer (pa ml)))
       replace XA := Lib.hid (Boxed.set (t := 27) (v := (.pointer none)) (Value.pointer (pa ml)) XA.out)
       go_simp
       refine hK.out _ _ hS (fun _ => ?_)
       clear hK K kA fA
       replace HX := Lib.hid (And.intro hI2 hC2)
       clear hI2 hC2
       try simp only [Act.put, zA, zB, zC]
       refine wpAnyH_ready (rs := [13]) (by kernel_rfl) (by simp) (AllReadyH.cons (o := ⟨none, _, _, _, _, _⟩) rfl (fun K hK => ?_) AllReadyH.nil)
       have kA := cell_of_one XB.out
       have fA := frozen_of_row _ cB 0 _ _ XB.out
       replace hS := hS.setNew GB.out 0 (Value.pointer (pa mr))
       have hI2 := HR.out.own _ _ _ HX.out.1 (KeepX.setRow (KeepX.refl _) XB.out ⟨Nat.le_trans hzw GB.out, Or.inr rfl⟩ 0 (Value.pointer (pa mr)))
       have hC2 := HX.out.2.box XB.out (Value.pointer (pa mr))
       replace M1 := Lib.hid (M1.out.setBox XB.out (by decide) 0 (Value.pointer (pa mr)))
       replace M2 := Lib.hid (M2.out.setBox XB.out (by decide) 0 (Value.pointer (pa mr)))
       replace XA := Lib.hid (Boxed.other (t := 27) (v := (.pointer (pa ml))) XA.out NE.out (Value.pointer (pa mr)))
       replace XB := Lib.hid (Boxed.set (t := 27) (v := (.pointer none)) (Value.pointer (pa mr)) XB.out)
       go_simp
       refine hK.out _ _ hS (fun _ => ?_)
       clear hK K kA fA
       replace HX := Lib.hid (And.intro hI2 hC2)
       clear hI2 hC2
       try simp only [Act.put, zA, zB, zC]
       refine wpAnyH_done (by kernel_rfl) (NoPanic.normal ?_) _
      case' way11 =>
       go_simp
       refine hK.out _ _ (hS.alloc _) (fun _ => ?_)
       clear hK K
       refine wpAnyH_madeX hS ?_
       have hS0 := hS
       clear hS
       rintro w20 hw hS
       obtain ⟨cA, hcA, hxA⟩ := made_at8S hw
       have GA : Hid (w14.heap.size ≤ cA) := Lib.hid (by have h2 := hS0.size; rw [hcA] at h2; exact h2)
       (try have NE : Hid (cA ≠ cB) := Lib.hid (by have h2 := (Array.getElem?_eq_some_iff.1 XB.out).1; rw [hcA] at h2; omega))
       (try simp at hcA)
       rw [hcA]
       (try replace XB := Lib.hid (boxStays XB.out (show Below _ _ w20 by rw [hw]; exact below_new _ _)))
       have XA : Hid (Boxed w20 cA 27 (.pointer none)) := Lib.hid hxA
       (try replace M1 := Lib.hid (M1.out.below (show Below _ _ w20 by rw [hw]; exact below_new _ _) rfl))
       (try replace M2 := Lib.hid (M2.out.below (show Below _ _ w20 by rw [hw]; exact below_new _ _) rfl))
       replace HX := Lib.hid (And.intro (HR.out.own _ _ _ HX.out.1 (KeepX.ofBelow (show Below _ _ w20 by rw [hw]; exact below_new _ _))) (HX.out.2.below (show Below _ _ w20 by rw [hw]; exact below_new _ _)))
       clear hcA hxA
       clear hw hS0
       try simp only [Act.put, zA, zB, zC]
       refine wpAnyH_ready (rs := [9]) (by kernel_rfl) (by simp) (AllReadyH.cons (o := ⟨some 88, _, _, _, _, _⟩) rfl (fun K hK => ?_) AllReadyH.nil)
       go_simp
       refine (IH.out _ sr ar or' (xs ++ as1) (rd + 1 + as1.length) (ru + as1.length) _ (Nat.le_trans hzw hS.size) (by omega) (by omega) (by omega) (by have := O1.out.len; omega) (by have := O1.out.len; omega) HWI.out.2 (ENV.out _ hS).2 HX.out.2 HX.out.1 (by rw [List.length_append]; omega)).mono ?_
       rintro e w16 ⟨mr, as2, rfl, ho, hm, hi, hc, hb, _⟩
       refine hK.out _ _ (hS.trans (hb)) (fun _ => ?_)
       clear hK K
       replace hS := hS.trans (hb)
       have O2 := Lib.hid ho
       have M2 := Lib.hid hm
       replace M1 := Lib.hid (M1.out.keepX hb NX.out.1)
       replace HX := Lib.hid (And.intro hi hc)
       (try replace XA := Lib.hid (hb.row XA.out (NX.out.2.1 _)))
       (try replace XB := Lib.hid (hb.row XB.out (NX.out.2.1 _)))
       clear ho hm hi hc
       clear hb
       try simp only [Act.put, zA, zB, zC]
       refine wpAnyH_ready (rs := [12]) (by kernel_rfl) (by simp) (AllReadyH.cons (o := ⟨none, _, _, _, _, _⟩) rfl (fun K hK => ?_) AllReadyH.nil)
       have kA := cell_of_one XA.out
       have fA := frozen_of_row _ cA 0 _ _ XA.out
       replace hS := hS.setNew GA.out 0 (Value.pointer (pa ml))
       have hI2 := HR.out.own _ _ _ HX.out.1 (KeepX.setRow (KeepX.refl _) XA.out ⟨Nat.le_trans hzw GA.out, Or.inr rfl⟩ 0 (Value.pointer (pa ml)))
       have hC2 := HX.out.2.box XA.out (Value.pointer (pa ml))
       replace M1 := Lib.hid (M1.out.setBox XA.out (by decide) 0 (Value.pointer (pa ml)))
       replace M2 := Lib.hid (M2.out.setBox XA.out (by decide) 0 (Value.pointer (pa ml)))
       replace XB := Lib.hid (Boxed.other (t := 27) (v := (.pointer none)) XB.out (Ne.symm NE.out) (Value.pointer (pa ml)))
       replace XA := Lib.hid (Boxed.set (t := 27) (v := (.pointer none)) (Value.pointer (pa ml)) XA.out)
       go_simp
       refine hK.out _ _ hS (fun _ => ?_)
       clear hK K kA fA
       replace HX := Lib.hid (And.intro hI2 hC2)
       clear hI2 hC2
       try simp only [Act.put, zA, zB, zC]
       refine wpAnyH_ready (rs := [13]) (by kernel_rfl) (by simp) (AllReadyH.cons (o := ⟨none, _, _, _, _, _⟩) rfl (fun K hK => ?_) AllReadyH.nil)
       have kA := cell_of_one XB.out
       have fA := frozen_of_row _ cB 0 _ _ XB.out
       replace hS := hS.setNew GB.out 0 (Value.pointer (pa mr))
       have hI2 := HR.out.own _ _ _ HX.out.1 (KeepX.setRow (KeepX.refl _) XB.out ⟨Nat.le_trans hzw GB.out, Or.inr rfl⟩ 0 (Value.pointer (pa mr)))
       have hC2 := HX.out.2.box XB.out (Value.pointer (pa mr))
       replace M1 := Lib.hid (M1.out.setBox XB.out (by decide) 0 (Value.pointer (pa mr)))
       replace M2 := Lib.hid (M2.out.setBox XB.out (by decide) 0 (Value.pointer (pa mr)))
       replace XA := Lib.hid (Boxed.other (t := 27) (v := (.pointer (pa ml))) XA.out NE.out (Value.pointer (pa mr)))
       replace XB := Lib.hid (Boxed.set (t := 27) (v := (.pointer none)) (Value.pointer (pa mr)) XB.out)
       go_simp
       refine hK.out _ _ hS (fun _ => ?_)
       clear hK K kA fA
       replace HX := Lib.hid (And.intro hI2 hC2)
       clear hI2 hC2
       try simp only [Act.put, zA, zB, zC]
       refine wpAnyH_done (by kernel_rfl) (NoPanic.normal ?_) _
    case' way2 =>
     go_simp
     refine hK.out _ _ (hS.alloc _) (fun _ => ?_)
     clear hK K
     refine wpAnyH_madeX hS ?_
     have hS0 := hS
     clear hS
     rintro w20 hw hS
     obtain ⟨cA, hcA, hxA⟩ := made_at8S hw
     have GA : Hid (w14.heap.size ≤ cA) := Lib.hid (by have h2 := hS0.size; rw [hcA] at h2; exact h2)
     (try have NE : Hid (cA ≠ cB) := Lib.hid (by have h2 := (Array.getElem?_eq_some_iff.1 XB.out).1; rw [hcA] at h2; omega))
     (try simp at hcA)
     rw [hcA]
     (try replace XB := Lib.hid (boxStays XB.out (show Below _ _ w20 by rw [hw]; exact below_new _ _)))
     have XA : Hid (Boxed w20 cA 27 (.pointer none)) := Lib.hid hxA
     (try replace M1 := Lib.hid (M1.out.below (show Below _ _ w20 by rw [hw]; exact below_new _ _) rfl))
     (try replace M2 := Lib.hid (M2.out.below (show Below _ _ w20 by rw [hw]; exact below_new _ _) rfl))
     replace HX := Lib.hid (And.intro (HR.out.own _ _ _ HX.out.1 (KeepX.ofBelow (show Below _ _ w20 by rw [hw]; exact below_new _ _))) (HX.out.2.below (show Below _ _ w20 by rw [hw]; exact below_new _ _)))
     clear hcA hxA
     clear hw hS0
     try simp only [Act.put, zA, zB, zC]
     refine wpAnyH_ready (rs := [4, 11]) (by kernel_rfl) (by simp) (AllReadyH.cons (o := ⟨some 83, _, _, _, _, _⟩) rfl (fun K hK => ?way14) (AllReadyH.cons (o := ⟨some 24, _, _, _, _, _⟩) rfl (fun K hK => ?way13) AllReadyH.nil))
     case' way14 =>
      go_simp
      refine (IH.out _ sl al ol xs (rd + 1) ru _ (Nat.le_trans hzw hS.size) (by omega) (by omega) (by omega) (by omega) (by omega) HWI.out.1 (ENV.out _ hS).1 HX.out.2 HX.out.1 hxr).mono ?_
      rintro e w15 ⟨ml, as1, rfl, ho, hm, hi, hc, hb, _⟩
      refine hK.out _ _ (hS.trans (hb)) (fun _ => ?_)
      clear hK K
      replace hS := hS.trans (hb)
      have O1 := Lib.hid ho
      have M1 := Lib.hid hm
      replace HX := Lib.hid (And.intro hi hc)
      (try replace XA := Lib.hid (hb.row XA.out (NX.out.2.1 _)))
      (try replace XB := Lib.hid (hb.row XB.out (NX.out.2.1 _)))
      clear ho hm hi hc
      clear hb
      try simp only [Act.put, zA, zB, zC]
      refine wpAnyH_ready (rs := [9, 11]) (by kernel_rfl) (by simp) (AllReadyH.cons (o := ⟨some 88, _, _, _, _, _⟩) rfl (fun K hK => ?way16) (AllReadyH.cons (o := ⟨some 24, _, _, _, _, _⟩) rfl (fun K hK => ?way15) AllReadyH.nil))
      case' way16 =>
       go_simp
       refine (IH.out _ sr ar or' (xs ++ as1) (rd + 1 + as1.length) (ru + as1.length) _ (Nat.le_trans hzw hS.size) (by omega) (by omega) (by omega) (by have := O1.out.len; omega) (by have := O1.out.len; omega) HWI.out.2 (ENV.out _ hS).2 HX.out.2 HX.out.1 (by rw [List.length_append]; omega)).mono ?_
       rintro e w16 ⟨mr, as2, rfl, ho, hm, hi, hc, hb, _⟩
       refine hK.out _ _ (hS.trans (hb)) (fun _ => ?_)
       clear hK K
       replace hS := hS.trans (hb)
       have O2 := Lib.hid ho
       have M2 := Lib.hid hm
       replace M1 := Lib.hid (M1.out.keepX hb NX.out.1)
       replace HX := Lib.hid (And.intro hi hc)
       (try replace XA := Lib.hid (hb.row XA.out (NX.out.2.1 _)))
       (try replace XB := Lib.hid (hb.row XB.out (NX.out.2.1 _)))
       clear ho hm hi hc
       clear hb
       try simp only [Act.put, zA, zB, zC]
       refine wpAnyH_ready (rs := [11]) (by kernel_rfl) (by simp) (AllReadyH.cons (o := ⟨some 24, _, _, _, _, _⟩) rfl (fun K hK => ?_) AllReadyH.nil)
       go_simp
       refine hK.out _ _ (hS.alloc _) (fun _ => ?_)
       clear hK K
       refine wpAnyH_madeX hS ?_
       have hS0 := hS
       clear hS
       rintro w20 hw hS
       obtain ⟨cB, hcB, hxB⟩ := made_at8S hw
       have GB : Hid (w14.heap.size ≤ cB) := Lib.hid (by have h2 := hS0.size; rw [hcB] at h2; exact h2)
       (try have NE : Hid (cA ≠ cB) := Lib.hid (by have h2 := (Array.getElem?_eq_some_iff.1 XA.out).1; rw [hcB] at h2; omega))
       (try simp at hcB)
       rw [hcB]
       (try replace XA := Lib.hid (boxStays XA.out (show Below _ _ w20 by rw [hw]; exact below_new _ _)))
       have XB : Hid (Boxed w20 cB 27 (.pointer none)) := Lib.hid hxB
       (try replace M1 := Lib.hid (M1.out.below (show Below _ _ w20 by rw [hw]; exact below_new _ _) rfl))
       (try replace M2 := Lib.hid (M2.out.below (show Below _ _ w20 by rw [hw]; exact below_new _ _) rfl))
       replace HX := Lib.hid (And.intro (HR.out.own _ _ _ HX.out.1 (KeepX.ofBelow (show Below _ _ w20 by rw [hw]; exact below_new _ _))) (HX.out.2.below (show Below _ _ w20 by rw [hw]; exact below_new _ _)))
       clear hcB hxB
       clear hw hS0
       try simp only [Act.put, zA, zB, zC]
       refine wpAnyH_ready (rs := [12]) (by kernel_rfl) (by simp) (AllReadyH.cons (o := ⟨none, _, _, _, _, _⟩) rfl (fun K hK => ?_) AllReadyH.nil)
       have kA := cell_of_one XA.out
       have fA := frozen_of_row _ cA 0 _ _ XA.out
       replace hS := hS.setNew GA.out 0 (Value.pointer (pa ml))
       have hI2 := HR.out.own _ _ _ HX.out.1 (KeepX.setRow (KeepX.refl _) XA.out ⟨Nat.le_trans hzw GA.out, Or.inr rfl⟩ 0 (Value.pointer (pa ml)))
       have hC2 := HX.out.2.box XA.out (Value.pointer (pa ml))
       replace M1 := Lib.hid (M1.out.setBox XA.out (by decide) 0 (Value.pointer (pa ml)))
       replace M2 := Lib.hid (M2.out.setBox XA.out (by decide) 0 (Value.pointer (pa ml)))
       replace XB := Lib.hid (Boxed.other (t := 27) (v := (.pointer none)) XB.out (Ne.symm NE.out) (Value.pointer (pa ml)))
       replace XA := Lib.hid (Boxed.set (t := 27) (v := (.pointer none)) (Value.pointer (pa ml)) XA.out)
       go_simp
       refine hK.out _ _ hS (fun _ => ?_)
       clear hK K kA fA
       replace HX := Lib.hid (And.intro hI2 hC2)
       clear hI2 hC2
       try simp only [Act.put, zA, zB, zC]
       refine wpAnyH_ready (rs := [13]) (by kernel_rfl) (by simp) (AllReadyH.cons (o := ⟨none, _, _, _, _, _⟩) rfl (fun K hK => ?_) AllReadyH.nil)
       have kA := cell_of_one XB.out
       have fA := frozen_of_row _ cB 0 _ _ XB.out
       replace hS := hS.setNew GB.out 0 (Value.pointer (pa mr))
       have hI2 := HR.out.own _ _ _ HX.out.1 (KeepX.setRow (KeepX.refl _) XB.out ⟨Nat.le_trans hzw GB.out, Or.inr rfl⟩ 0 (Value.pointer (pa mr)))
       have hC2 := HX.out.2.box XB.out (Value.pointer (pa mr))
       replace M1 := Lib.hid (M1.out.setBox XB.out (by decide) 0 (Value.pointer (pa mr)))
       replace M2 := Lib.hid (M2.out.setBox XB.out (by decide) 0 (Value.pointer (pa mr)))
       replace XA := Lib.hid (Boxed.other (t := 27) (v := (.pointer (pa ml))) XA.out NE.out (Value.pointer (pa mr)))
       replace XB := Lib.hid (Boxed.set (t := 27) (v := (.pointer none)) (Value.pointer (pa mr)) XB.out)
       go_simp
       refine hK.out _ _ hS (fun _ => ?_)
       clear hK K kA fA
       replace HX := Lib.hid (And.intro hI2 hC2)
       clear hI2 hC2
       try simp only [Act.put, zA, zB, zC]
       refine wpAnyH_done (by kernel_rfl) (NoPanic.normal ?_) _
      case' way15 =>
       go_simp
       refine hK.out _ _ (hS.alloc _) (fun _ => ?_)
       clear hK K
       refine wpAnyH_madeX hS ?_
       have hS0 := hS
       clear hS
       rintro w20 hw hS
       obtain ⟨cB, hcB, hxB⟩ := made_at8S hw
       have GB : Hid (w14.heap.size ≤ cB) := Lib.hid (by have h2 := hS0.size; rw [hcB] at h2; exact h2)
       (try have NE : Hid (cA ≠ cB) := Lib.hid (by have h2 := (Array.getElem?_eq_some_iff.1 XA.out).1; rw [hcB] at h2; omega))
       (try simp at hcB)
       rw [hcB]
       (try replace XA := Lib.hid (boxStays XA.out (show Below _ _ w20 by rw [hw]; exact below_new _ _)))
       have XB : Hid (Boxed w20 cB 27 (.pointer none)) := Lib.hid hxB
       (try replace M1 := Lib.hid (M1.out.below (show Below _ _ w20 by rw [hw]; exact below_new _ _) rfl))
       (try replace M2 := Lib.hid (M2.out.below (show Below _ _ w20 by rw [hw]; exact below_new _ _) rfl))
       replace HX := Lib.hid (And.intro (HR.out.own _ _ _ HX.out.1 (KeepX.ofBelow (show Below _ _ w20 by rw [hw]; exact below_new _ _))) (HX.out.2.below (show Below _ _ w20 by rw [hw]; exact below_new _ _)))
       clear hcB hxB
       clear hw hS0
       try simp only [Act.put, zA, zB, zC]
       refine wpAnyH_ready (rs := [9]) (by kernel_rfl) (by simp) (AllReadyH.cons (o := ⟨some 88, _, _, _, _, _⟩) rfl (fun K hK => ?_) AllReadyH.nil)
       go_simp
       refine (IH.out _ sr ar or' (xs ++ as1) (rd + 1 + as1.length) (ru + as1.length) _ (Nat.le_trans hzw hS.size) (by omega) (by omega) (by omega) (by have := O1.out.len; omega) (by have := O1.out.len; omega) HWI.out.2 (ENV.out _ hS).2 HX.out.2 HX.out.1 (by rw [List.length_append]; omega)).mono ?_
       rintro e w16 ⟨mr, as2, rfl, ho, hm, hi, hc, hb, _⟩
       refine hK.out _ _ (hS.trans (hb)) (fun _ => ?_)
       clear hK K
       replace hS := hS.trans (hb)
       have O2 := Lib.hid ho
       have M2 := Lib.hid hm
       replace M1 := Lib.hid (M1.out.keepX hb NX.out.1)
       replace HX := Lib.hid (And.intro hi hc)
       (try replace XA := Lib.hid (hb.row XA.out (NX.out.2.1 _)))
       (try replace XB := Lib.hid (hb.row XB.out (NX.out.2.1 _)))
       clear ho hm hi hc
       clear hb
       try simp only [Act.put, zA, zB, zC]
       refine wpAnyH_ready (rs := [12]) (by kernel_rfl) (by simp) (AllReadyH.cons (o := ⟨none, _, _, _, _, _⟩) rfl (fun K hK => ?_) AllReadyH.nil)
       have kA := cell_of_one XA.out
       have fA := frozen_of_row _ cA 0 _ _ XA.out
       replace hS := hS.setNew GA.out 0 (Value.pointer (pa ml))
       have hI2 := HR.out.own _ _ _ HX.out.1 (KeepX.setRow (KeepX.refl _) XA.out ⟨Nat.le_trans hzw GA.out, Or.inr rfl⟩ 0 (Value.pointer (pa ml)))
       have hC2 := HX.out.2.box XA.out (Value.pointer (pa ml))
       replace M1 := Lib.hid (M1.out.setBox XA.out (by decide) 0 (Value.pointer (pa ml)))
       replace M2 := Lib.hid (M2.out.setBox XA.out (by decide) 0 (Value.pointer (pa ml)))
       replace XB := Lib.hid (Boxed.other (t := 27) (v := (.pointer none)) XB.out (Ne.symm NE.out) (Value.pointer (pa ml)))
       replace XA := Lib.hid (Boxed.set (t := 27) (v := (.pointer none)) (Value.pointer (pa ml)) XA.out)
       go_simp
       refine hK.out _ _ hS (fun _ => ?_)
       clear hK K kA fA
       replace HX := Lib.hid (And.intro hI2 hC2)
       clear hI2 hC2
       try simp only [Act.put, zA, zB, zC]
       refine wpAnyH_ready (rs := [13]) (by kernel_rfl) (by simp) (AllReadyH.cons (o := ⟨none, _, _, _, _, _⟩) rfl (fun K hK => ?_) AllReadyH.nil)
       have kA := cell_of_one XB.out
       have fA := frozen_of_row _ cB 0 _ _ XB.out
       replace hS := hS.setNew GB.out 0 (Value.pointer (pa mr))
       have hI2 := HR.out.own _ _ _ HX.out.1 (KeepX.setRow (KeepX.refl _) XB.out ⟨Nat.le_trans hzw GB.out, Or.inr rfl⟩ 0 (Value.pointer (pa mr)))
       have hC2 := HX.out.2.box XB.out (Value.pointer (pa mr))
       replace M1 := Lib.hid (M1.out.setBox XB.out (by decide) 0 (Value.pointer (pa mr)))
       replace M2 := Lib.hid (M2.out.setBox XB.out (by decide) 0 (Value.pointer (pa mr)))
       replace XA := Lib.hid (Boxed.other (t := 27) (v := (.pointer (pa ml))) XA.out NE.out (Value.pointer (pa mr)))
       replace XB := Lib.hid (Boxed.set (t := 27) (v := (.pointer none)) (Value.pointer (pa mr)) XB.out)
       go_simp
       refine hK.out _ _ hS (fun _ => ?_)
       clear hK K kA fA
       replace HX := Lib.hid (And.intro hI2 hC2)
       clear hI2 hC2
       try simp only [Act.put, zA, zB, zC]
       refine wpAnyH_done (by kernel_rfl) (NoPanic.normal ?_) _
     case' way13 =>
      go_simp
      refine hK.out _ _ (hS.alloc _) (fun _ => ?_)
      clear hK K
      refine wpAnyH_madeX hS ?_
      have hS0 := hS
      clear hS
      rintro w20 hw hS
      obtain ⟨cB, hcB, hxB⟩ := made_at8S hw
      have GB : Hid (w14.heap.size ≤ cB) := Lib.hid (by have h2 := hS0.size; rw [hcB] at h2; exact h2)
      (try have NE : Hid (cA ≠ cB) := Lib.hid (by have h2 := (Array.getElem?_eq_some_iff.1 XA.out).1; rw [hcB] at h2; omega))
      (try simp at hcB)
      rw [hcB]
      (try replace XA := Lib.hid (boxStays XA.out (show Below _ _ w20 by rw [hw]; exact below_new _ _)))
      have XB : Hid (Boxed w20 cB 27 (.pointer none)) := Lib.hid hxB
      (try replace M1 := Lib.hid (M1.out.below (show Below _ _ w20 by rw [hw]; exact below_new _ _) rfl))
      (try replace M2 := Lib.hid (M2.out.below (show Below _ _ w20 by rw [hw]; exact below_new _ _) rfl))
      replace HX := Lib.hid (And.intro (HR.out.own _ _ _ HX.out.1 (KeepX.ofBelow (show Below _ _ w20 by rw [hw]; exact below_new _ _))) (HX.out.2.below (show Below _ _ w20 by rw [hw]; exact below_new _ _)))
      clear hcB hxB
      clear hw hS0
      try simp only [Act.put, zA, zB, zC]
      refine wpAnyH_ready (rs := [4]) (by kernel_rfl) (by simp) (AllReadyH.cons (o := ⟨some 83, _, _, _, _, _⟩) rfl (fun K hK => ?_) AllReadyH.nil)
      go_simp
      refine (IH.out _ sl al ol xs (rd + 1) ru _ (Nat.le_trans hzw hS.size) (by omega) (by omega) (by omega) (by omega) (by omega) HWI.out.1 (ENV.out _ hS).1 HX.out.2 HX.out.1 hxr).mono ?_
      rintro e w15 ⟨ml, as1, rfl, ho, hm, hi, hc, hb, _⟩
      refine hK.out _ _ (hS.trans (hb)) (fun _ => ?_)
      clear hK K
      replace hS := hS.trans (hb)
      have O1 := Lib.hid ho
      have M1 := Lib.hid hm
      replace HX := Lib.hid (And.intro hi hc)
      (try replace XA := Lib.hid (hb.row XA.out (NX.out.2.1 _)))
      (try replace XB := Lib.hid (hb.row XB.out (NX.out.2.1 _)))
      clear ho hm hi hc
      clear hb
      try simp only [Act.put, zA, zB, zC]
      refine wpAnyH_ready (rs := [9]) (by kernel_rfl) (by simp) (AllReadyH.cons (o := ⟨some 88, _, _, _, _, _⟩) rfl (fun K hK => ?_) AllReadyH.nil)
      go_simp
      refine (IH.out _ sr ar or' (xs ++ as1) (rd + 1 + as1.length) (ru + as1.length) _ (Nat.le_trans hzw hS.size) (by omega) (by omega) (by omega) (by have := O1.out.len; omega) (by have := O1.out.len; omega) HWI.out.2 (ENV.out _ hS).2 HX.out.2 HX.out.1 (by rw [List.length_append]; omega)).mono ?_
      rintro e w16 ⟨mr, as2, rfl, ho, hm, hi, hc, hb, _⟩
      refine hK.out _ _ (hS.trans (hb)) (fun _ => ?_)
      clear hK K
      replace hS := hS.trans (hb)
      have O2 := Lib.hid ho
      have M2 := Lib.hid hm
      replace M1 := Lib.hid (M1.out.keepX hb NX.out.1)
      replace HX := Lib.hid (And.intro hi hc)
      (try replace XA := Lib.hid (hb.row XA.out (NX.out.2.1 _)))
      (try replace XB := Lib.hid (hb.row XB.out (NX.out.2.1 _)))
      clear ho hm hi hc
      clear hb
      try simp only [Act.put, zA, zB, zC]
      refine wpAnyH_ready (rs := [12]) (by kernel_rfl) (by simp) (AllReadyH.cons (o := ⟨none, _, _, _, _, _⟩) rfl (fun K hK => ?_) AllReadyH.nil)
      have kA := cell_of_one XA.out
      have fA := frozen_of_row _ cA 0 _ _ XA.out
      replace hS := hS.setNew GA.out 0 (Value.pointer (pa ml))
      have hI2 := HR.out.own _ _ _ HX.out.1 (KeepX.setRow (KeepX.refl _) XA.out ⟨Nat.le_trans hzw GA.out, Or.inr rfl⟩ 0 (Value.pointer (pa ml)))
      have hC2 := HX.out.2.box XA.out (Value.pointer (pa ml))
      replace M1 := Lib.hid (M1.out.setBox XA.out (by decide) 0 (Value.pointer (pa ml)))
      replace M2 := Lib.hid (M2.out.setBox XA.out (by decide) 0 (Value.pointer (pa ml)))
      replace XB := Lib.hid (Boxed.other (t := 27) (v := (.pointer none)) XB.out (Ne.symm NE.out) (Value.pointer (pa ml)))
      replace XA := Lib.hid (Boxed.set (t := 27) (v := (.pointer none)) (Value.pointer (pa ml)) XA.out)
      go_simp
      refine hK.out _ _ hS (fun _ => ?_)
      clear hK K kA fA
      replace HX := Lib.hid (And.intro hI2 hC2)
      clear hI2 hC2
      try simp only [Act.put, zA, zB, zC]
      refine wpAnyH_ready (rs := [13]) (by kernel_rfl) (by simp) (AllReadyH.cons (o := ⟨none, _, _, _, _, _⟩) rfl (fun K hK => ?_) AllReadyH.nil)
      have kA := cell_of_one XB.out
      have fA := frozen_of_row _ cB 0 _ _ XB.out
      replace hS := hS.setNew GB.out 0 (Value.pointer (pa mr))
      have hI2 := HR.out.own _ _ _ HX.out.1 (KeepX.setRow (KeepX.refl _) XB.out ⟨Nat.le_trans hzw GB.out, Or.inr rfl⟩ 0 (Value.pointer (pa mr)))
      have hC2 := HX.out.2.box XB.out (Value.pointer (pa mr))
      replace M1 := Lib.hid (M1.out.setBox XB.out (by decide) 0 (Value.pointer (pa mr)))
      replace M2 := Lib.hid (M2.out.setBox XB.out (by decide) 0 (Value.pointer (pa mr)))
      replace XA := Lib.hid (Boxed.other (t := 27) (v := (.pointer (pa ml))) XA.out NE.out (Value.pointer (pa mr)))
      replace XB := Lib.hid (Boxed.set (t := 27) (v := (.pointer none)) (Value.pointer (pa mr)) XB.out)
      go_simp
      refine hK.out _ _ hS (fun _ => ?_)
      clear hK K kA fA
      replace HX := Lib.hid (And.intro hI2 hC2)
      clear hI2 hC2
      try simp only [Act.put, zA, zB, zC]
      refine wpAnyH_done (by kernel_rfl) (NoPanic.normal ?_) _
    case' way1 =>
     go_simp
     refine hK.out _ _ (hS.alloc _) (fun _ => ?_)
     clear hK K
     refine wpAnyH_madeX hS ?_
     have hS0 := hS
     clear hS
     rintro w20 hw hS
     obtain ⟨cB, hcB, hxB⟩ := made_at8S hw
     have GB : Hid (w14.heap.size ≤ cB) := Lib.hid (by have h2 := hS0.size; rw [hcB] at h2; exact h2)
     (try have NE : Hid (cA ≠ cB) := Lib.hid (by have h2 := (Array.getElem?_eq_some_iff.1 XA.out).1; rw [hcB] at h2; omega))
     (try simp at hcB)
     rw [hcB]
     (try replace XA := Lib.hid (boxStays XA.out (show Below _ _ w20 by rw [hw]; exact below_new _ _)))
     have XB : Hid (Boxed w20 cB 27 (.pointer none)) := Lib.hid hxB
     (try replace M1 := Lib.hid (M1.out.below (show Below _ _ w20 by rw [hw]; exact below_new _ _) rfl))
     (try replace M2 := Lib.hid (M2.out.below (show Below _ _ w20 by rw [hw]; exact below_new _ _) rfl))
     replace HX := Lib.hid (And.intro (HR.out.own _ _ _ HX.out.1 (KeepX.ofBelow (show Below _ _ w20 by rw [hw]; exact below_new _ _))) (HX.out.2.below (show Below _ _ w20 by rw [hw]; exact below_new _ _)))
     clear hcB hxB
     clear hw hS0
     try simp only [Act.put, zA, zB, zC]
     refine wpAnyH_ready (rs := [4, 10]) (by kernel_rfl) (by simp) (AllReadyH.cons (o := ⟨some 83, _, _, _, _, _⟩) rfl (fun K hK => ?way18) (AllReadyH.cons (o := ⟨some 23, _, _, _, _, _⟩) rfl (fun K hK => ?way17) AllReadyH.nil))
     case' way18 =>
      go_simp
      refine (IH.out _ sl al ol xs (rd + 1) ru _ (Nat.le_trans hzw hS.size) (by omega) (by omega) (by omega) (by omega) (by omega) HWI.out.1 (ENV.out _ hS).1 HX.out.2 HX.out.1 hxr).mono ?_
      rintro e w15 ⟨ml, as1, rfl, ho, hm, hi, hc, hb, _⟩
      refine hK.out _ _ (hS.trans (hb)) (fun _ => ?_)
      clear hK K
      replace hS := hS.trans (hb)
      have O1 := Lib.hid ho
      have M1 := Lib.hid hm
      replace HX := Lib.hid (And.intro hi hc)
      (try replace XA := Lib.hid (hb.row XA.out (NX.out.2.1 _)))
      (try replace XB := Lib.hid (hb.row XB.out (NX.out.2.1 _)))
      clear ho hm hi hc
      clear hb
      try simp only [Act.put, zA, zB, zC]
      refine wpAnyH_ready (rs := [9, 10]) (by kernel_rfl) (by simp) (AllReadyH.cons (o := ⟨some 88, _, _, _, _, _⟩) rfl (fun K hK => ?way20) (AllReadyH.cons (o := ⟨some 23, _, _, _, _, _⟩) rfl (fun K hK => ?way19) AllReadyH.nil))
      case' way20 =>
       go_simp
       refine (IH.out _ sr ar or' (xs ++ as1) (rd + 1 + as1.length) (ru + as1.length) _ (Nat.le_trans hzw hS.size) (by omega) (by omega) (by omega) (by have := O1.out.len; omega) (by have := O1.out.len; omega) HWI.out.2 (ENV.out _ hS).2 HX.out.2 HX.out.1 (by rw [List.length_append]; omega)).mono ?_
       rintro e w16 ⟨mr, as2, rfl, ho, hm, hi, hc, hb, _⟩
       refine hK.out _ _ (hS.trans (hb)) (fun _ => ?_)
       clear hK K
       replace hS := hS.trans (hb)
       have O2 := Lib.hid ho
       have M2 := Lib.hid hm
       replace M1 := Lib.hid (M1.out.keepX hb NX.out.1)
       replace HX := Lib.hid (And.intro hi hc)
       (try replace XA := Lib.hid (hb.row XA.out (NX.out.2.1 _)))
       (try replace XB := Lib.hid (hb.row XB.out (NX.out.2.1 _)))
       clear ho hm hi hc
       clear hb
       try simp only [Act.put, zA, zB, zC]
       refine wpAnyH_ready (rs := [10]) (by kernel_rfl) (by simp) (AllReadyH.cons (o := ⟨some 23, _, _, _, _, _⟩) rfl (fun K hK => ?_) AllReadyH.nil)
       go_simp
       refine hK.out _ _ (hS.alloc _) (fun _ => ?_)
       clear hK K
       refine wpAnyH_madeX hS ?_
       have hS0 := hS
       clear hS
       rintro w20 hw hS
       obtain ⟨cA, hcA, hxA⟩ := made_at8S hw
       have GA : Hid (w14.heap.size ≤ cA) := Lib.hid (by have h2 := hS0.size; rw [hcA] at h2; exact h2)
       (try have NE : Hid (cA ≠ cB) := Lib.hid (by have h2 := (Array.getElem?_eq_some_iff.1 XB.out).1; rw [hcA] at h2; omega))
       (try simp at hcA)
       rw [hcA]
       (try replace XB := Lib.hid (boxStays XB.out (show Below _ _ w20 by rw [hw]; exact below_new _ _)))
       have XA : Hid (Boxed w20 cA 27 (.pointer none)) := Lib.hid hxA
       (try replace M1 := Lib.hid (M1.out.below (show Below _ _ w20 by rw [hw]; exact below_new _ _) rfl))
       (try replace M2 := Lib.hid (M2.out.below (show Below _ _ w20 by rw [hw]; exact below_new _ _) rfl))
       replace HX := Lib.hid (And.intro (HR.out.own _ _ _ HX.out.1 (KeepX.ofBelow (show Below _ _ w20 by rw [hw]; exact below_new _ _))) (HX.out.2.below (show Below _ _ w20 by rw [hw]; exact below_new _ _)))
       clear hcA hxA
       clear hw hS0
       try simp only [Act.put, zA, zB, zC]
       refine wpAnyH_ready (rs := [12]) (by kernel_rfl) (by simp) (AllReadyH.cons (o := ⟨none, _, _, _, _, _⟩) rfl (fun K hK => ?_) AllReadyH.nil)
       have kA := cell_of_one XA.out
       have fA := frozen_of_row _ cA 0 _ _ XA.out
       replace hS := hS.setNew GA.out 0 (Value.pointer (pa ml))
       have hI2 := HR.out.own _ _ _ HX.out.1 (KeepX.setRow (KeepX.refl _) XA.out ⟨Nat.le_trans hzw GA.out, Or.inr rfl⟩ 0 (Value.pointer (pa ml)))
       have hC2 := HX.out.2.box XA.out (Value.pointer (pa ml))
       replace M1 := Lib.hid (M1.out.setBox XA.out (by decide) 0 (Value.pointer (pa ml)))
       replace M2 := Lib.hid (M2.out.setBox XA.out (by decide) 0 (Value.pointer (pa ml)))
       replace XB := Lib.hid (Boxed.other (t := 27) (v := (.pointer none)) XB.out (Ne.symm NE.out) (Value.pointer (pa ml)))
       replace XA := Lib.hid (Boxed.set (t := 27) (v := (.pointer none)) (Value.pointer (pa ml)) XA.out)
       go_simp
       refine hK.out _ _ hS (fun _ => ?_)
       clear hK K kA fA
       replace HX := Lib.hid (And.intro hI2 hC2)
       clear hI2 hC2
       try simp only [Act.put, zA, zB, zC]
       refine wpAnyH_ready (rs := [13]) (by kernel_rfl) (by simp) (AllReadyH.cons (o := ⟨none, _, _, _, _, _⟩) rfl (fun K hK => ?_) AllReadyH.nil)
       have kA := cell_of_one XB.out
       have fA := frozen_of_row _ cB 0 _ _ XB.out
       replace hS := hS.setNew GB.out 0 (Value.pointer (pa mr))
       have hI2 := HR.out.own _ _ _ HX.out.1 (KeepX.setRow (KeepX.refl _) XB.out ⟨Nat.le_trans hzw GB.out, Or.inr rfl⟩ 0 (Value.pointer (pa mr)))
       have hC2 := HX.out.2.box XB.out (Value.pointer (pa mr))
       replace M1 := Lib.hid (M1.out.setBox XB.out (by decide) 0 (Value.pointer (pa mr)))
       replace M2 := Lib.hid (M2.out.setBox XB.out (by decide) 0 (Value.pointer (pa mr)))
       replace XA := Lib.hid (Boxed.other (t := 27) (v := (.pointer (pa ml))) XA.out NE.out (Value.pointer (pa mr)))
       replace XB := Lib.hid (Boxed.set (t := 27) (v := (.pointer none)) (Value.pointer (pa mr)) XB.out)
       go_simp
       refine hK.out _ _ hS (fun _ => ?_)
       clear hK K kA fA
       replace HX := Lib.hid (And.intro hI2 hC2)
       clear hI2 hC2
       try simp only [Act.put, zA, zB, zC]
       refine wpAnyH_done (by kernel_rfl) (NoPanic.normal ?_) _
      case' way19 =>
       go_simp
       refine hK.out _ _ (hS.alloc _) (fun _ => ?_)
       clear hK K
       refine wpAnyH_madeX hS ?_
       have hS0 := hS
       clear hS
       rintro w20 hw hS
       obtain ⟨cA, hcA, hxA⟩ := made_at8S hw
       have GA : Hid (w14.heap.size ≤ cA) := Lib.hid (by have h2 := hS0.size; rw [hcA] at h2; exact h2)
       (try have NE : Hid (cA ≠ cB) := Lib.hid (by have h2 := (Array.getElem?_eq_some_iff.1 XB.out).1; rw [hcA] at h2; omega))
       (try simp at hcA)
       rw [hcA]
       (try replace XB := Lib.hid (boxStays XB.out (show Below _ _ w20 by rw [hw]; exact below_new _ _)))
       have XA : Hid (Boxed w20 cA 27 (.pointer none)) := Lib.hid hxA
       (try replace M1 := Lib.hid (M1.out.below (show Below _ _ w20 by rw [hw]; exact below_new _ _) rfl))
       (try replace M2 := Lib.hid (M2.out.below (show Below _ _ w20 by rw [hw]; exact below_new _ _) rfl))
       replace HX := Lib.hid (And.intro (HR.out.own _ _ _ HX.out.1 (KeepX.ofBelow (show Below _ _ w20 by rw [hw]; exact below_new _ _))) (HX.out.2.below (show Below _ _ w20 by rw [hw]; exact below_new _ _)))
       clear hcA hxA
       clear hw hS0
       try simp only [Act.put, zA, zB, zC]
       refine wpAnyH_ready (rs := [9]) (by kernel_rfl) (by simp) (AllReadyH.cons (o := ⟨some 88, _, _, _, _, _⟩) rfl (fun K hK => ?_) AllReadyH.nil)
       go_simp
       refine (IH.out _ sr ar or' (xs ++ as1) (rd + 1 + as1.length) (ru + as1.length) _ (Nat.le_trans hzw hS.size) (by omega) (by omega) (by omega) (by have := O1.out.len; omega) (by have := O1.out.len; omega) HWI.out.2 (ENV.out _ hS).2 HX.out.2 HX.out.1 (by rw [List.length_append]; omega)).mono ?_
       rintro e w16 ⟨mr, as2, rfl, ho, hm, hi, hc, hb, _⟩
       refine hK.out _ _ (hS.trans (hb)) (fun _ => ?_)
       clear hK K
       replace hS := hS.trans (hb)
       have O2 := Lib.hid ho
       have M2 := Lib.hid hm
       replace M1 := Lib.hid (M1.out.keepX hb NX.out.1)
       replace HX := Lib.hid (And.intro hi hc)
       (try replace XA := Lib.hid (hb.row XA.out (NX.out.2.1 _)))
       (try replace XB := Lib.hid (hb.row XB.out (NX.out.2.1 _)))
       clear ho hm hi hc
       clear hb
       try simp only [Act.put, zA, zB, zC]
       refine wpAnyH_ready (rs := [12]) (by kernel_rfl) (by simp) (AllReadyH.cons (o := ⟨none, _, _, _, _, _⟩) rfl (fun K hK => ?_) AllReadyH.nil)
       have kA := cell_of_one XA.out
       have fA := frozen_of_row _ cA 0 _ _ XA.out
       replace hS := hS.setNew GA.out 0 (Value.pointer (pa ml))
       have hI2 := HR.out.own _ _ _ HX.out.1 (KeepX.setRow (KeepX.refl _) XA.out ⟨Nat.le_trans hzw GA.out, Or.inr rfl⟩ 0 (Value.pointer (pa ml)))
       have hC2 := HX.out.2.box XA.out (Value.pointer (pa ml))
       replace M1 := Lib.hid (M1.out.setBox XA.out (by decide) 0 (Value.pointer (pa ml)))
       replace M2 := Lib.hid (M2.out.setBox XA.out (by decide) 0 (Value.pointer (pa ml)))
       replace XB := Lib.hid (Boxed.other (t := 27) (v := (.pointer none)) XB.out (Ne.symm NE.out) (Value.pointer (pa ml)))
       replace XA := Lib.hid (Boxed.set (t := 27) (v := (.pointer none)) (Value.pointer (pa ml)) XA.out)
       go_simp
       refine hK.out _ _ hS (fun _ => ?_)
       clear hK K kA fA
       replace HX := Lib.hid (And.intro hI2 hC2)
       clear hI2 hC2
       try simp only [Act.put, zA, zB, zC]
       refine wpAnyH_ready (rs := [13]) (by kernel_rfl) (by simp) (AllReadyH.cons (o := ⟨none, _, _, _, _, _⟩) rfl (fun K hK => ?_) AllReadyH.nil)
       have kA := cell_of_one XB.out
       have fA := frozen_of_row _ cB 0 _ _ XB.out
       replace hS := hS.setNew GB.out 0 (Value.pointer (pa mr))
       have hI2 := HR.out.own _ _ _ HX.out.1 (KeepX.setRow (KeepX.refl _) XB.out ⟨Nat.le_trans hzw GB.out, Or.inr rfl⟩ 0 (Value.pointer (pa mr)))
       have hC2 := HX.out.2.box XB.out (Value.pointer (pa mr))
       replace M1 := Lib.hid (M1.out.setBox XB.out (by decide) 0 (Value.pointer (pa mr)))
       replace M2 := Lib.hid (M2.out.setBox XB.out (by decide) 0 (Value.pointer (pa mr)))
       replace XA := Lib.hid (Boxed.other (t := 27) (v := (.pointer (pa ml))) XA.out NE.out (Value.pointer (pa mr)))
       replace XB := Lib.hid (Boxed.set (t := 27) (v := (.pointer none)) (Value.pointer (pa mr)) XB.out)
       go_simp
       refine hK.out _ _ hS (fun _ => ?_)
       clear hK K kA fA
       replace HX := Lib.hid (And.intro hI2 hC2)
       clear hI2 hC2
       try simp only [Act.put, zA, zB, zC]
       refine wpAnyH_done (by kernel_rfl) (NoPanic.normal ?_) _
     case' way17 =>
      go_simp
      refine hK.out _ _ (hS.alloc _) (fun _ => ?_)
      clear hK K
      refine wpAnyH_madeX hS ?_
      have hS0 := hS
      clear hS
      rintro w20 hw hS
      obtain ⟨cA, hcA, hxA⟩ := made_at8S hw
      have GA : Hid (w14.heap.size ≤ cA) := Lib.hid (by have h2 := hS0.size; rw [hcA] at h2; exact h2)
      (try have NE : Hid (cA ≠ cB) := Lib.hid (by have h2 := (Array.getElem?_eq_some_iff.1 XB.out).1; rw [hcA] at h2; omega))
      (try simp at hcA)
      rw [hcA]
      (try replace XB := Lib.hid (boxStays XB.out (show Below _ _ w20 by rw [hw]; exact below_new _ _)))
      have XA : Hid (Boxed w20 cA 27 (.pointer none)) := Lib.hid hxA
      (try replace M1 := Lib.hid (M1.out.below (show Below _ _ w20 by rw [hw]; exact below_new _ _) rfl))
      (try replace M2 := Lib.hid (M2.out.below (show Below _ _ w20 by rw [hw]; exact below_new _ _) rfl))
      replace HX := Lib.hid (And.intro (HR.out.own _ _ _ HX.out.1 (KeepX.ofBelow (show Below _ _ w20 by rw [hw]; exact below_new _ _))) (HX.out.2.below (show Below _ _ w20 by rw [hw]; exact below_new _ _)))
      clear hcA hxA
      clear hw hS0
      try simp only [Act.put, zA, zB, zC]
      refine wpAnyH_ready (rs := [4]) (by kernel_rfl) (by simp) (AllReadyH.cons (o := ⟨some 83, _, _, _, _, _⟩) rfl (fun K hK => ?_) AllReadyH.nil)
      go_simp
      refine (IH.out _ sl al ol xs (rd + 1) ru _ (Nat.le_trans hzw hS.size) (by omega) (by omega) (by omega) (by omega) (by omega) HWI.out.1 (ENV.out _ hS).1 HX.out.2 HX.out.1 hxr).mono ?_
      rintro e w15 ⟨ml, as1, rfl, ho, hm, hi, hc, hb, _⟩
      refine hK.out _ _ (hS.trans (hb)) (fun _ => ?_)
      clear hK K
      replace hS := hS.trans (hb)
      have O1 := Lib.hid ho
      have M1 := Lib.hid hm
      replace HX := Lib.hid (And.intro hi hc)
      (try replace XA := Lib.hid (hb.row XA.out (NX.out.2.1 _)))
      (try replace XB := Lib.hid (hb.row XB.out (NX.out.2.1 _)))
      clear ho hm hi hc
      clear hb
      try simp only [Act.put, zA, zB, zC]
      refine wpAnyH_ready (rs := [9]) (by kernel_rfl) (by simp) (AllReadyH.cons (o := ⟨some 88, _, _, _, _, _⟩) rfl (fun K hK => ?_) AllReadyH.nil)
      go_simp
      refine (IH.out _ sr ar or' (xs ++ as1) (rd + 1 + as1.length) (ru + as1.length) _ (Nat.le_trans hzw hS.size) (by omega) (by omega) (by omega) (by have := O1.out.len; omega) (by have := O1.out.len; omega) HWI.out.2 (ENV.out _ hS).2 HX.out.2 HX.out.1 (by rw [List.length_append]; omega)).mono ?_
      rintro e w16 ⟨mr, as2, rfl, ho, hm, hi, hc, hb, _⟩
      refine hK.out _ _ (hS.trans (hb)) (fun _ => ?_)
      clear hK K
      replace hS := hS.trans (hb)
      have O2 := Lib.hid ho
      have M2 := Lib.hid hm
      replace M1 := Lib.hid (M1.out.keepX hb NX.out.1)
      replace HX := Lib.hid (And.intro hi hc)
      (try replace XA := Lib.hid (hb.row XA.out (NX.out.2.1 _)))
      (try replace XB := Lib.hid (hb.row XB.out (NX.out.2.1 _)))
      clear ho hm hi hc
      clear hb
      try simp only [Act.put, zA, zB, zC]
      refine wpAnyH_ready (rs := [12]) (by kernel_rfl) (by simp) (AllReadyH.cons (o := ⟨none, _, _, _, _, _⟩) rfl (fun K hK => ?_) AllReadyH.nil)
      have kA := cell_of_one XA.out
      have fA := frozen_of_row _ cA 0 _ _ XA.out
      replace hS := hS.setNew GA.out 0 (Value.pointer (pa ml))
      have hI2 := HR.out.own _ _ _ HX.out.1 (KeepX.setRow (KeepX.refl _) XA.out ⟨Nat.le_trans hzw GA.out, Or.inr rfl⟩ 0 (Value.pointer (pa ml)))
      have hC2 := HX.out.2.box XA.out (Value.pointer (pa ml))
      replace M1 := Lib.hid (M1.out.setBox XA.out (by decide) 0 (Value.pointer (pa ml)))
      replace M2 := Lib.hid (M2.out.setBox XA.out (by decide) 0 (Value.pointer (pa ml)))
      replace XB := Lib.hid (Boxed.other (t := 27) (v := (.pointer none)) XB.out (Ne.symm NE.out) (Value.pointer (pa ml)))
      replace XA := Lib.hid (Boxed.set (t := 27) (v := (.pointer none)) (Value.pointer (pa ml)) XA.out)
      go_simp
      refine hK.out _ _ hS (fun _ => ?_)
      clear hK K kA fA
      replace HX := Lib.hid (And.intro hI2 hC2)
      clear hI2 hC2
      try simp only [Act.put, zA, zB, zC]
      refine wpAnyH_ready (rs := [13]) (by kernel_rfl) (by simp) (AllReadyH.cons (o := ⟨none, _, _, _, _, _⟩) rfl (fun K hK => ?_) AllReadyH.nil)
      have kA := cell_of_one XB.out
      have fA := frozen_of_row _ cB 0 _ _ XB.out
      replace hS := hS.setNew GB.out 0 (Value.pointer (pa mr))
      have hI2 := HR.out.own _ _ _ HX.out.1 (KeepX.setRow (KeepX.refl _) XB.out ⟨Nat.le_trans hzw GB.out, Or.inr rfl⟩ 0 (Value.pointer (pa mr)))
      have hC2 := HX.out.2.box XB.out (Value.pointer (pa mr))
      replace M1 := Lib.hid (M1.out.setBox XB.out (by decide) 0 (Value.pointer (pa mr)))
      replace M2 := Lib.hid (M2.out.setBox XB.out (by decide) 0 (Value.pointer (pa mr)))
      replace XA := Lib.hid (Boxed.other (t := 27) (v := (.pointer (pa ml))) XA.out NE.out (Value.pointer (pa mr)))
      replace XB := Lib.hid (Boxed.set (t := 27) (v := (.pointer none)) (Value.pointer (pa mr)) XB.out)
      go_simp
      refine hK.out _ _ hS (fun _ => ?_)
      clear hK K kA fA
      replace HX := Lib.hid (And.intro hI2 hC2)
      clear hI2 hC2
      try simp only [Act.put, zA, zB, zC]
      refine wpAnyH_done (by kernel_rfl) (NoPanic.normal ?_) _
    all_goals
     go_wp2_with fail
     go_meet
     refine ⟨cA, cB, ml, mr, as1, as2, rfl, rfl, Lib.hid ⟨XA.out, XB.out, M1.out, M2.out, O1.out, O2.out, ?_, ?_⟩, Lib.hid hS⟩
     · rw [← List.append_assoc]; exact HX.out.1
     · rw [show rd + 1 + (as1 ++ as2).length = rd + 1 + as1.length + as2.length by simp; omega, show ru + (as1 ++ as2).length = ru + as1.length + as2.length by simp; omega]; exact HX.out.2
  case rest =>
   obtain ⟨cA, cB, ml, mr, as1, as2, rfl, rfl, M, KM⟩ := hcut
   have GG : Hid (Boxed wc rb 169 (.func (.func rf) #[] env) ∧ Boxed wc (z + 1 + 1 + 1) 27 (.pointer none)) := Lib.hid ⟨KM.out.row F14.out.e.r (NX.out.2.2.2 _), KM.out.row F14.out.x3 (NX.out.2.1 _)⟩
   have K15 := Lib.hid (K14.out.trans KM.out)
   clear F14 K14 P14 KM K8
   obtain ⟨ks, hks⟩ : ∃ ks, as1 ++ as2 = ks := ⟨_, rfl⟩
   have hkl : ks.length + 1 ≤ sz a + sz o := by rw [← hks]; have := M.out.o1.len; have := M.out.o2.len; simp; omega
   have hxk : (xs ++ ks).length ≤ 2147483648 := by rw [List.length_append]; omega
   have HKS := Lib.hid hks
   obtain ⟨rd2, hrd2⟩ : ∃ q, rd + 1 + ks.length = q := ⟨_, rfl⟩
   obtain ⟨ru2, hru2⟩ : ∃ q, ru + ks.length = q := ⟨_, rfl⟩
   have hru3 : ru2 + 1 ≤ 1152921504606846976 := by omega
   have CC : Hid (CntAtS cb rd2 ru2 wc) := Lib.hid (by rw [← hrd2, ← hru2, ← hks]; exact M.out.c)
   have HRD := Lib.hid hrd2
   have HRU := Lib.hid hru2
   have IX : Hid (I (xs ++ ks) wc) := Lib.hid (by rw [← hks]; exact M.out.i)
   have cc := CC.out
   unfold CntAtS at cc
   have q0 := cell_of_row _ cb 1 _ _ _ cc
   have q1 := frozen_of_row _ cb 1 _ _ cc
   clear cc hrd2 hru2 hks
   go_upto_region 15 with (fail)
   obtain ⟨w16, hw⟩ : ∃ W, wc.setCell ⟨cb, 1, none⟩ (.int .i64 ((ru2 : Int) + 1)) = W := ⟨_, rfl⟩
   rw [hw]
   have hk16 : KeepX (onlyCS cb) wc w16 := by rw [← hw]; exact keep_cntS CC.out
   have C16 : Hid (CntAtS cb rd2 (ru2 + 1) w16) := Lib.hid (by rw [← hw]; exact (cnt_setS CC.out).2)
   have I16 : Hid (I (xs ++ ks) w16) := Lib.hid (HR.out.own _ _ _ IX.out (hk16.monoX fun k t ht => by obtain ⟨rfl, rfl⟩ := ht; exact ⟨hBc, .inl rfl⟩))
   have K16 : Hid (KeepX (withCS Ex cb) w w16) := Lib.hid (K15.out.trans (hk16.monoX fun k t h => .inr h))
   have NO := nOnlyS cb
   have B16 : Hid (Boxed w16 rb 169 (.func (.func rf) #[] env) ∧ Boxed w16 (z + 1 + 1 + 1) 27 (.pointer none) ∧ Boxed w16 cA 27 (.pointer (pa ml)) ∧ Boxed w16 cB 27 (.pointer (pa mr)) ∧ AtS w16 ml ∧ AtS w16 mr) :=
    Lib.hid ⟨hk16.row GG.out.1 (NO.2.2.2 _), hk16.row GG.out.2 (NO.2.1 _), hk16.row M.out.xa (NO.2.1 _), hk16.row M.out.xb (NO.2.1 _), M.out.tl.keepX hk16 NO.1, M.out.tr.keepX hk16 NO.1⟩
   have OO : Hid (WlkO (⟨#[]⟩ : ByteArray) R B0 A0 O0 (fun k => C k ∧ klt k key = true) sl al ol ml as1 ∧ WlkO (⟨#[]⟩ : ByteArray) R B0 A0 O0 (fun k => C k ∧ klt key k = true) sr ar or' mr as2) := Lib.hid ⟨M.out.o1, M.out.o2⟩
   clear hw hk16 NO CC IX K15 GG M q0 q1
   have g1 := cell_of_one B16.out.1
   go_wp2_with fail
   rw [HR.out.enters]
   refine (HR.out.call key (xs ++ ks) w16 I16.out hxk HK.out.2).mono ?_
   rintro e w17 ⟨rfl, hi, hk⟩
   have K17 : Hid (KeepX (withCS Ex cb) w w17) := Lib.hid (K16.out.trans (hk.monoX fun k t h => .inl h))
   have C17 : Hid (CntAtS cb rd2 (ru2 + 1) w17) := Lib.hid (hk.row C16.out (HR.out.nCount _))
   have I17 := Lib.hid hi
   have B17 : Hid (Boxed w17 (z + 1 + 1 + 1) 27 (.pointer none) ∧ Boxed w17 cA 27 (.pointer (pa ml)) ∧ Boxed w17 cB 27 (.pointer (pa mr)) ∧ AtS w17 ml ∧ AtS w17 mr) :=
    Lib.hid ⟨hk.row B16.out.2.1 (HR.out.nMap _), hk.row B16.out.2.2.1 (HR.out.nMap _), hk.row B16.out.2.2.2.1 (HR.out.nMap _), B16.out.2.2.2.2.1.keepX hk HR.out.nNode, B16.out.2.2.2.2.2.keepX hk HR.out.nNode⟩
   clear hi hk K16 C16 I16 B16 g1
   have HSR : Hid (Srt (items ml ++ (key, (R key).1) :: items mr)) := Lib.hid (by
    refine srt_append.2 ⟨OO.out.1.srt, srt_cons.2 ⟨fun y hy => (OO.out.2.inC y hy).2, OO.out.2.srt⟩, fun x hx y hy => ?_⟩
    rcases List.mem_cons.1 hy with rfl | hy
    · exact (OO.out.1.inC x hx).2
    · exact klt_trans (OO.out.1.inC x hx).2 (OO.out.2.inC y hy).2)
   have hmz : sz ml + sz mr ≤ 1073741824 := by have := OO.out.1.siz; have := OO.out.2.siz; omega
   obtain ⟨v, hv⟩ : ∃ v, (R key).1 = v := ⟨_, rfl⟩
   obtain ⟨q, hq⟩ : ∃ q, (R key).2 = q := ⟨_, rfl⟩
   rw [hv, hq]
   have HV := Lib.hid hv
   have HQ := Lib.hid hq
   rw [hv] at HSR
   clear hv hq
   have FIN : Hid (∀ (m : Tr ByteArray) (W : World), items m = items ml ++ ((if (R key).2 = true then [(key, (R key).1)] else []) ++ items mr) → Bal m → AtS W m → Below w17.heap.size w17 W →
    WalkPS Ex R B0 A0 O0 C I cb s a o xs rd ru w (.returned (.agg #[.pointer (pa m)])) (W.setCell ⟨z + 1 + 1 + 1, 0, none⟩ (.pointer (pa m)))) := Lib.hid (fun m W hm hb hat hbl => by
    have e1 : ∀ q : Nat, q + (as1 ++ as2 ++ [key]).length = q + 1 + ks.length := fun q => by rw [← HKS.out]; simp; omega
    refine GoFS.ends (asked := as1 ++ as2 ++ [key]) (boxStays B17.out.1 hbl) HR.out hBw HZ0.out (WlkO.step HI.out HK.out.1 HHE.out SP1.out SP2.out SP3.out HDJ.out OO.out.1 OO.out.2 hm hb) hat ?_ ?_ (K17.out.trans (KeepX.ofBelow hbl)) ⟨fun h => h.elim (fun h => absurd h HAO.out) (fun h => absurd h HSO.out), fun h _ _ => absurd h HSA.out⟩
    · rw [HKS.out, ← List.append_assoc]
      exact HR.out.own _ _ _ I17.out (KeepX.ofBelow hbl)
    · rw [e1, e1, HRD.out, show ru + 1 + ks.length = ru2 + 1 by rw [← HRU.out]; omega]
      exact C17.out.below hbl)
   have k1 := cell_of_one B17.out.2.1
   have k2 := cell_of_one B17.out.2.2.1
   cases q
   case false =>
    go_wp2_with fail
    refine (wk_putS ml mr w17.heap.size w17 (Nat.le_refl _) B17.out.2.2.2.1 B17.out.2.2.2.2 OO.out.1.bal OO.out.2.bal (by
     obtain ⟨s1, s2, s3⟩ := srt_append.1 HSR.out
     exact srt_append.2 ⟨s1, (srt_cons.1 s2).2, fun x hx y hy => s3 x hx y (List.mem_cons_of_mem _ hy)⟩) hmz).mono ?_
    rintro e w18 ⟨m, rfl, hm, hbal, hat, hb⟩
    have x3 := boxStays B17.out.1 hb
    have f3 := frozen_of_row _ (z + 1 + 1 + 1) 0 _ _ x3
    have k3 := cell_of_one x3
    have W18 := Lib.hid (FIN.out m w18 (by rw [hm, HQ.out]; simp) hbal hat hb)
    have k4 := cell_of_one (heap_setCell_same w18 (z + 1 + 1 + 1) 0 _ _ (.pointer (pa m)) x3)
    clear hm hbal hat hb k1 k2 x3
    go_wp2_with fail
    clear k3 f3
    refine bodyPost_ret (v := .agg #[.pointer (pa m)]) (by simp [results, Tryz.results145, go_sem, k4]) rfl ?_
    exact W18.out
   case true =>
    go_wp2_with fail
    refine (pm_JoinS ml mr key v w17.heap.size w17 (Nat.le_refl _) B17.out.2.2.2.1 B17.out.2.2.2.2 (by omega)).mono ?_
    rintro e w18 ⟨m, nn, hJ, rfl, hat, hb⟩
    have hj : JoinR w17.heap.size key v ml mr m := by
     rcases hJ with ⟨_, h1, _⟩ | ⟨h1, _⟩
     · exact h1
     · exact absurd (join_ok_ofS HSR.out) h1
    clear hJ k1 k2
    go_upto_region 19 with (fail)
    obtain ⟨w19, hw⟩ : ∃ W, w18.alloc (.cells #[.pointer (pa m)] 27) = W := ⟨_, rfl⟩
    have x5 : Boxed w19 w18.heap.size 27 (.pointer (pa m)) := by rw [← hw]; exact Boxed.new _ _ _
    have hb19 : Below w18.heap.size w18 w19 := by rw [← hw]; exact below_new _ _
    rw [hw]
    clear hw
    have hbb := hb.trans (hb19.mono hb.size)
    have x3 := boxStays B17.out.1 hbb
    have f3 := frozen_of_row _ (z + 1 + 1 + 1) 0 _ _ x3
    have k3 := cell_of_one x3
    have k5 := cell_of_one x5
    have W19 := Lib.hid (FIN.out m w19 (by rw [hj.items, HQ.out, HV.out]; simp) (hj.bal OO.out.1.bal OO.out.2.bal).1 (hat.below hb19 rfl) hbb)
    have k4 := cell_of_one (heap_setCell_same w19 (z + 1 + 1 + 1) 0 _ _ (.pointer (pa m)) x3)
    clear hj hat hb hb19 hbb x3 x5
    go_wp2_with fail
    clear k3 f3 k5
    refine bodyPost_ret (v := .agg #[.pointer (pa m)]) (by simp [results, Tryz.results145, go_sem, k4]) rfl ?_
    exact W19.out
end Go.Proofs.YtjlliohjeiclaaaGreatDoor
