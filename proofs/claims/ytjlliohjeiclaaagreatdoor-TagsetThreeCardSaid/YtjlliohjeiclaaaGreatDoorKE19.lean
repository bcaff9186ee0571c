/- Words, contracts and walks that the proof stands on (WkDS WkES TgH). -/
import Derived.Test.YtjlliohjeiclaaaGreatDoorKE1
import Derived.Test.YtjlliohjeiclaaaGreatDoorKE13
import Derived.Test.YtjlliohjeiclaaaGreatDoorKE17
import Derived.Test.YtjlliohjeiclaaaGreatDoorKE18
namespace Go.Proofs.YtjlliohjeiclaaaGreatDoor
open Go.RowKit Pm
attribute [local go_sem] Oper.semAt_some
theorem rule_nilS (W : World) (f : Nat) (env : Array Value) : (binOp .eql 169 (.func (.func f) #[] env) .nilFunc).run Tryz.prog W = .ok (.bool false) W := by
 have hp := Tryz.underlying169
 have h : ∀ d : Nat, (Op.equalIn (d + 1) 169 (.func (.func f) #[] env) .nilFunc).run Tryz.prog W = .ok false W := fun d => by simp [Op.equalIn, run_underlying hp]
 simp only [binOp]
 simp [Op.equal, Op.maxDepth, h 9999]
theorem findAsk2S (w : World) (b : Nat) : ∀ (es : List MapEntry) (ps : List Nat) (i : Nat), es.map (fun e => (e.key, e.val)) = ps.map (fun b => (Value.pointer (some ⟨b, 0, none⟩), Value.bool true)) → NdsS w (b :: ps) → b ∈ ps →
 ∃ j e, es[j]? = some e ∧ e.key = .pointer (some ⟨b, 0, none⟩) ∧ (Instr.findAsking 25 (.pointer (some ⟨b, 0, none⟩)) es i).run Tryz.prog w = .ok (some (i + j, .bool true)) w
 | [], ps, i, h, _, hb => by
  have : ps = [] := by simpa using h.symm
  subst this
  cases hb
 | e :: es, [], i, h, _, hb => by cases hb
 | e :: es, p :: ps, i, h, hn, hb => by
  simp only [List.map_cons, List.cons.injEq, Prod.mk.injEq] at h
  obtain ⟨⟨hk, hv⟩, hr⟩ := h
  have he := ptr_equalS w b p (fun x hx => hn x (by simp at hx ⊢; rcases hx with h | h <;> simp [h]))
  by_cases e1 : b = p
  · subst e1
    refine ⟨0, e, rfl, hk, ?_⟩
    simp only [decide_true] at he
    simp [Instr.findAsking, hk, hv, he]
  · have hd : decide (b = p) = false := by simpa using e1
    rw [hd] at he
    obtain ⟨j, e2, h1, h2, h3⟩ := findAsk2S w b es ps (i + 1) hr (fun x hx => hn x (by simp at hx ⊢; rcases hx with h | h <;> simp [h])) ((List.mem_cons.1 hb).resolve_left e1)
    refine ⟨j + 1, e2, by simpa using h1, h2, ?_⟩
    rw [show i + (j + 1) = i + 1 + j by omega]
    simp [Instr.findAsking, hk, he, h3]
theorem nodeMap_anyS {w : World} {B : Nat} {ps : List Nat} (h : NodeMapS w B ps) (b : Nat) (hn : NdsS w (b :: ps)) :
 ∃ o ps', (Instr.mapUpdate 206 (.map (some B)) (.pointer (some ⟨b, 0, none⟩)) (.bool true)).run Tryz.prog w = .ok () (w.putObj B o) ∧ NodeMapS (w.putObj B o) B ps' ∧ ∀ x ∈ ps', x = b ∨ x ∈ ps := by
 by_cases hb : b ∈ ps
 · obtain ⟨es, clock, hB, he⟩ := h
   have hm := Tryz.underlying206
   have hp := Tryz.underlying25
   have hc := checkKeyNS w false b
   obtain ⟨j, e, h1, h2, h3⟩ := findAsk2S w b es.toList ps 0 he hn hb
   rw [Nat.zero_add] at h3
   have hj : es[j]? = some e := by simpa using h1
   have h4 : (Instr.findKey 25 (.pointer (some ⟨b, 0, none⟩)) es.toList).run Tryz.prog w = .ok (some (j, .bool true)) w := by
    cases hes : es.toList with
    | nil => rw [hes] at h1; simp at h1
    | cons x xs =>
     have hs : ∀ v, Instr.sameNow (.pointer 111) (.pointer (some ⟨b, 0, none⟩)) v = none := fun v => by simp [Instr.sameNow]
     have hf : Instr.findNow (.pointer 111) (.pointer (some ⟨b, 0, none⟩)) (x :: xs) 0 = none := by simp [Instr.findNow, hs]
     rw [hes] at h3
     simpa [Instr.findKey, run_underlying hp, hf] using h3
   have hst : (Instr.keyThatStays (.pointer (some ⟨b, 0, none⟩)) (.pointer (some ⟨b, 0, none⟩))).run Tryz.prog w = .ok (.pointer (some ⟨b, 0, none⟩)) w := by
    simp [Instr.keyThatStays, Instr.sameBits]
   refine ⟨.map (es.modify j fun e => { e with key := .pointer (some ⟨b, 0, none⟩), val := .bool true }) clock, ps, ?_, ?_, fun x hx => .inr hx⟩
   · unfold Instr.mapUpdate
     simp [run_underlying hm, Go.MapKept.run_getObj_map hB, Go.MapKept.run_setObj_map _ hB, hc, h4, hj, h2, hst]
     rfl
   · refine ⟨_, _, World.putObj_heap_same (Array.getElem?_eq_some_iff.1 hB).1, ?_⟩
     rw [← he]
     apply List.ext_getElem?
     intro i
     simp only [List.getElem?_map, Array.getElem?_toList, Array.getElem?_modify]
     by_cases hij : j = i
     · subst hij
       rw [if_pos rfl, hj]
       have hv : e.val = .bool true := by
        have : (e.key, e.val) ∈ es.toList.map (fun e => (e.key, e.val)) := List.mem_map.2 ⟨e, List.mem_of_getElem? h1, rfl⟩
        rw [he] at this
        obtain ⟨q, _, hq⟩ := List.mem_map.1 this
        exact (Prod.mk.inj hq).2.symm
       simp [h2, hv]
     · rw [if_neg hij]
 · obtain ⟨o, h1, h2⟩ := nodeMap_putS h b hn hb
   exact ⟨o, _, h1, h2, fun x hx => by
    rcases List.mem_append.1 hx with h | h
    · exact .inr h
    · exact .inl (List.mem_singleton.1 h)⟩
def runTS (g : Nat → Value) (z y u : Nat) : Array Value := #[g 0, g 1, g 2, g 3, g 4, g 5, g 6, g 7, .pointer (some ⟨z + 1 + 1 + 1 + 1, 0, none⟩), .pointer (some ⟨z + 1 + 1 + 1 + 1 + 1, 0, none⟩), .int .i64 0, .pointer (some ⟨z + 1 + 1 + 1 + 1 + 1 + 1, 0, none⟩), g 12, .pointer (some ⟨y, 0, none⟩), .pointer (some ⟨y + 1 + 1, 0, none⟩), g 15, g 16, g 17, g 18, g 19, g 20, g 21, g 22, g 23, g 24, g 25, g 26, g 27, g 28, g 29, g 30, g 31, g 32, .slice (some ⟨y + 3, 0, none⟩) 3 3, .int .i64 3, .int .i64 (u : Int), g 36, g 37, g 38, g 39, g 40, g 41, g 42, g 43, g 44, g 45, g 46, g 47, g 48, g 49, g 50, g 51, g 52, g 53, g 54, g 55, g 56, g 57, g 58, g 59, g 60, g 61, g 62]
def runHS (m s a o : Tr ByteArray) (z y n k : Nat) : List (Nat × Obj) :=
 [(y, .cells #[.pointer (pa m)] 27 (0, 0)), (y + 1 + 1, .cells #[.map (some (y + 1))] 206 (0, 0)), (z + 1 + 1 + 1 + 1, .cells #[.pointer none] 27 (0, 0)), (z + 1 + 1 + 1 + 1 + 1, .cells #[.int .i64 0, .int .i64 0, .int .i64 0] 126 (0, 0)),
  (z + 1 + 1 + 1 + 1 + 1 + 1, .cells #[.int .i64 (n : Int), .int .i64 (n : Int), .int .i64 (k : Int)] 126 (0, 0)), (y + 3, .cells #[.pointer (pa s), .pointer (pa a), .pointer (pa o)] 27 (0, 0))]
def oldMS (s a o : Tr ByteArray) (B : Nat) (W : World) : Prop := ∃ ps, NodeMapS W B ps ∧ ∀ b ∈ ps, b ∈ blocks s ∨ b ∈ blocks a ∨ b ∈ blocks o
theorem oldM_ownS {β : Type} {s a o : Tr ByteArray} {B' B : Nat} (h : B < B') : OwnFrom B' (fun (_ : β) W => oldMS s a o B W) := by
 rintro _ A A' row ⟨ps, ⟨es, c, h1, h2⟩, h3⟩ hg hr
 exact ⟨ps, ⟨es, c, own_block (β := Unit) h () A A' row h1 hg hr, h2⟩, h3⟩
theorem oldMS.below {s a o : Tr ByteArray} {B : Nat} {W W' : World} (h : oldMS s a o B W) (hb : Below W.heap.size W W') : oldMS s a o B W' := by
 obtain ⟨ps, ⟨es, c, h1, h2⟩, h3⟩ := h
 exact ⟨ps, ⟨es, c, boxStays h1 hb, h2⟩, h3⟩
def endXS (z : Nat) (k : Nat) (t : TypeId) : Prop := (k = z + 1 + 1 + 1 + 1 ∧ t = 27) ∨ (k = z + 1 + 1 + 1 + 1 + 1 ∧ t = 126)
def RnIS (H : List (Nat × Obj)) (s a o : Tr ByteArray) (y : Nat) (w9 : World) (_ : List (Tr ByteArray)) (W : World) : Prop := Facts H W ∧ oldMS s a o (y + 1) W ∧ Below y w9 W
theorem rnI_ownS {H : List (Nat × Obj)} {s a o : Tr ByteArray} {y : Nat} {w9 : World} {B : Nat} (hH : ∀ p ∈ H, p.1 < B) (h1 : y + 1 < B) (h2 : y ≤ w9.heap.size) : OwnFrom B (RnIS H s a o y w9) := by
 rintro pre A A' row ⟨a1, a2, a3⟩ hg hr
 exact ⟨facts_own (β := Unit) H B hH () A A' row a1 hg hr, oldM_ownS (β := Unit) h1 () A A' row a2 hg hr, ownFrom_below (β := Unit) h2 (by omega) () A A' row a3 hg hr⟩
def RnKS (m s a o : Tr ByteArray) (z y n : Nat) (Ds : List Nat) (w9 : World) (pre : List (Tr ByteArray)) (W : World) : Prop :=
 ∃ k, k ≤ pre.length ∧ Facts (runHS m s a o z y n k ++ markF Ds) W ∧ oldMS s a o (y + 1) W ∧ SameBut (z + 1 + 1 + 1 + 1 + 1 + 1) y w9 W
theorem rnK_ownS {m s a o : Tr ByteArray} {z y n : Nat} {Ds : List Nat} {w9 : World} {B : Nat} (hH : ∀ k, ∀ p ∈ runHS m s a o z y n k ++ markF Ds, p.1 < B) (h1 : y + 1 < B) (h2 : y ≤ w9.heap.size) : OwnFrom B (RnKS m s a o z y n Ds w9) := by
 rintro pre A A' row ⟨k, a0, a1, a2, a3⟩ hg hr
 exact ⟨k, a0, facts_own (β := Unit) _ B (hH k) () A A' row a1 hg hr, oldM_ownS (β := Unit) h1 () A A' row a2 hg hr, SameBut.own (β := Unit) h2 (by omega) () A A' row a3 hg hr⟩
theorem AtS.sameBut {c y : Nat} {w w' : World} {t : Tr ByteArray} (h : AtS w t) (hs : SameBut c y w w') (h1 : ∀ b ∈ blocks t, b < y) (h2 : c ∉ blocks t) : AtS w' t :=
 h.keep fun b o ho hm => (hs.block b (h1 b hm) (fun e => h2 (e ▸ hm))).trans ho
set_option maxRecDepth 100000 in
set_option maxHeartbeats 4000000 in
theorem wk_RunS {Ex : Nat → TypeId → Prop} {rf : Nat} {env : Array Value} {R B0 A0 O0 : ByteArray → ByteArray × Bool} {I : List ByteArray → World → Prop} (s a o : Tr ByteArray) (w : World) (hR : RuleOKS Ex rf env R B0 A0 O0 w.heap.size I)
 (hz : sz a + sz o ≤ 1073741824) (hzs : sz s ≤ 1073741824) (hI : WlkI (⟨#[]⟩ : ByteArray) B0 A0 O0 (fun _ => True) s a o) (hs : AtS w s) (ha : AtS w a) (ho : AtS w o) (hi : I [] w) :
 Calls Tryz.prog 113 #[.agg #[.pointer (pa s)], .agg #[.pointer (pa a)], .agg #[.pointer (pa o)], .func (.func rf) #[] env] w fun e w' =>
  ∃ (m : Tr ByteArray) (asked : List ByteArray) (made : Nat), e = .returned (.tuple #[.agg #[.pointer (pa m)], .agg #[.int .i64 (asked.length : Int), .int .i64 (asked.length : Int), .int .i64 (made : Int)], .int .i64 0]) ∧
   WlkO (⟨#[]⟩ : ByteArray) R B0 A0 O0 (fun _ => True) s a o m asked ∧ AtS w' m ∧ I asked w' ∧ made ≤ sz m ∧ (pa m = pa s ∨ pa m = pa a ∨ pa m = pa o → made = 0) ∧ KeepX Ex w w' ∧ TopWS s a o m asked := by
 obtain ⟨z, hz0⟩ : ∃ z, w.heap.size = z := ⟨_, rfl⟩
 rw [hz0] at hR
 have HR := Lib.hid hR
 have HI := Lib.hid hI
 have HS := Lib.hid hs
 have HA := Lib.hid ha
 have HO := Lib.hid ho
 have II := Lib.hid hi
 clear hR hI hs ha ho hi
 have hnn := rule_nilS
 have hmk := @run_makeMap Tryz.prog
 refine (callsIn_wide (n := 6)).1 ?_
 refine callsIn_of_wp_marks Tryz.func113 rfl trivial ?_ rfl
 simp only [Tryz.ntmps113, List.size_toArray, List.length_cons, List.length_nil, Nat.reduceAdd, Nat.reduceSub, Array.replicate_succ, Array.replicate_zero, List.push_toArray, List.append_toArray, List.nil_append, List.cons_append]
 refine wpIn_wide.2 ?_
 go_wp2_with fail
 obtain ⟨w8, hw8⟩ : ∃ W, allocs w [.cells #[.pointer (pa s)] 27, .cells #[.pointer (pa a)] 27, .cells #[.pointer (pa o)] 27, .cells #[.func (.func rf) #[] env] 169, .cells #[.pointer none] 27, .cells #[.int .i64 0, .int .i64 0, .int .i64 0] 126, .cells #[.int .i64 0, .int .i64 0, .int .i64 0] 126,
  .cells #[.func (.func 145) #[] #[.pointer (some ⟨z + 1 + 1 + 1 + 1 + 1 + 1, 0, none⟩), .pointer (some ⟨z + 1 + 1 + 1 + 1 + 1 + 1 + 1, 0, none⟩), .pointer (some ⟨z + 1 + 1 + 1, 0, none⟩)]] 198] = W := ⟨_, rfl⟩
 have hb8 : Below w.heap.size w w8 := by rw [← hw8]; exact allocs_below _ _
 have hx : ∀ i ob, [Obj.cells #[.pointer (pa s)] 27, .cells #[.pointer (pa a)] 27, .cells #[.pointer (pa o)] 27, .cells #[.func (.func rf) #[] env] 169, .cells #[.pointer none] 27, .cells #[.int .i64 0, .int .i64 0, .int .i64 0] 126, .cells #[.int .i64 0, .int .i64 0, .int .i64 0] 126,
  .cells #[.func (.func 145) #[] #[.pointer (some ⟨z + 1 + 1 + 1 + 1 + 1 + 1, 0, none⟩), .pointer (some ⟨z + 1 + 1 + 1 + 1 + 1 + 1 + 1, 0, none⟩), .pointer (some ⟨z + 1 + 1 + 1, 0, none⟩)]] 198][i]? = some ob → w8.heap[z + i]? = some ob := fun i ob h => by have := allocs_get _ w i ob h; rw [hw8, hz0] at this; exact this
 have x0 : Boxed w8 z 27 (.pointer (pa s)) := hx 0 _ rfl
 have x1 : Boxed w8 (z + 1) 27 (.pointer (pa a)) := hx 1 _ rfl
 have x2 : Boxed w8 (z + 1 + 1) 27 (.pointer (pa o)) := hx 2 _ rfl
 have x3 : Boxed w8 (z + 1 + 1 + 1) 169 (.func (.func rf) #[] env) := hx 3 _ rfl
 have x4 : Boxed w8 (z + 1 + 1 + 1 + 1) 27 (.pointer none) := hx 4 _ rfl
 have x5 : w8.heap[z + 1 + 1 + 1 + 1 + 1]? = some (.cells #[.int .i64 0, .int .i64 0, .int .i64 0] 126 (0, 0)) := hx 5 _ rfl
 have x6 : CntAtS (z + 1 + 1 + 1 + 1 + 1 + 1) 0 0 w8 := hx 6 _ rfl
 have x7 : Boxed w8 (z + 1 + 1 + 1 + 1 + 1 + 1 + 1) 198 (.func (.func 145) #[] #[.pointer (some ⟨z + 1 + 1 + 1 + 1 + 1 + 1, 0, none⟩), .pointer (some ⟨z + 1 + 1 + 1 + 1 + 1 + 1 + 1, 0, none⟩), .pointer (some ⟨z + 1 + 1 + 1, 0, none⟩)]) := hx 7 _ rfl
 have e8 : EnvWS rf env (z + 1 + 1 + 1 + 1 + 1 + 1) (z + 1 + 1 + 1 + 1 + 1 + 1 + 1) (z + 1 + 1 + 1) s a o w8 := ⟨x7, x3, HS.out.below hb8 rfl, HA.out.below hb8 rfl, HO.out.below hb8 rfl⟩
 have i8 : I [] w8 := HR.out.own _ _ _ II.out (KeepX.ofBelow hb8)
 have GO := Lib.hid (wk_go1S HR.out (z + 1 + 1 + 1 + 1 + 1 + 1) (z + 1 + 1 + 1 + 1 + 1 + 1 + 1) (z + 1 + 1 + 1) (by omega) (sz a + sz o + 1) (fun _ => True) s a o [] 0 0 w8 (by have := hb8.size; omega) (by omega) hz hzs (by omega) (by omega) HI.out e8 x6 i8 (Nat.zero_le _))
 have K8 : Hid (KeepX Ex w w8) := Lib.hid (KeepX.ofBelow hb8)
 have X8 : Hid (Boxed w8 z 27 (.pointer (pa s)) ∧ Boxed w8 (z + 1) 27 (.pointer (pa a)) ∧ Boxed w8 (z + 1 + 1) 27 (.pointer (pa o)) ∧ Boxed w8 (z + 1 + 1 + 1 + 1) 27 (.pointer none) ∧ w8.heap[z + 1 + 1 + 1 + 1 + 1]? = some (.cells #[.int .i64 0, .int .i64 0, .int .i64 0] 126 (0, 0)) ∧ AtS w8 s ∧ AtS w8 a ∧ AtS w8 o) := Lib.hid ⟨x0, x1, x2, x4, x5, e8.s, e8.a, e8.o⟩
 change Calls _ _ _ (allocs w [.cells #[.pointer (pa s)] 27, .cells #[.pointer (pa a)] 27, .cells #[.pointer (pa o)] 27, .cells #[.func (.func rf) #[] env] 169, .cells #[.pointer none] 27, .cells #[.int .i64 0, .int .i64 0, .int .i64 0] 126, .cells #[.int .i64 0, .int .i64 0, .int .i64 0] 126,
  .cells #[.func (.func 145) #[] #[.pointer (some ⟨z + 1 + 1 + 1 + 1 + 1 + 1, 0, none⟩), .pointer (some ⟨z + 1 + 1 + 1 + 1 + 1 + 1 + 1, 0, none⟩), .pointer (some ⟨z + 1 + 1 + 1, 0, none⟩)]] 198]) _
 rw [hw8]
 have hz8 : z + 8 ≤ w8.heap.size := by have := x7.lt; omega
 clear hx x0 x1 x2 x3 x4 x5 x6 x7 e8 i8 hb8 hw8
 refine GO.out.mono ?_
 rintro e w9 ⟨m, asked, rfl, hO, hM, hi9, hc9, hk9, htw⟩
 have HTW := Lib.hid htw
 clear htw
 clear GO
 have OO := Lib.hid hO
 have I9 := Lib.hid hi9
 have C9 := Lib.hid hc9
 have K9 := Lib.hid hk9
 have hz9 : z + 8 ≤ w9.heap.size := by have := hk9.size; omega
 have X9 : Hid (Boxed w9 z 27 (.pointer (pa s)) ∧ Boxed w9 (z + 1) 27 (.pointer (pa a)) ∧ Boxed w9 (z + 1 + 1) 27 (.pointer (pa o)) ∧ Boxed w9 (z + 1 + 1 + 1 + 1) 27 (.pointer none) ∧ w9.heap[z + 1 + 1 + 1 + 1 + 1]? = some (.cells #[.int .i64 0, .int .i64 0, .int .i64 0] 126 (0, 0)) ∧ AtS w9 s ∧ AtS w9 a ∧ AtS w9 o ∧ AtS w9 m) := Lib.hid (by
  obtain ⟨x0, x1, x2, x4, x5, t1, t2, t3⟩ := X8.out
  have nM : ∀ k, ¬ withCS Ex (z + 1 + 1 + 1 + 1 + 1 + 1) k 27 := fun k h => h.elim (HR.out.nMap k) (fun h => absurd h.2 (by decide))
  have nN : ∀ k, ¬ withCS Ex (z + 1 + 1 + 1 + 1 + 1 + 1) k 111 := fun k h => h.elim (HR.out.nNode k) (fun h => absurd h.2 (by decide))
  exact ⟨hk9.row x0 (nM _), hk9.row x1 (nM _), hk9.row x2 (nM _), hk9.row x4 (nM _), hk9.row x5 (fun h => h.elim (HR.out.nCount _) (fun h => by omega)), t1.keepX hk9 nN, t2.keepX hk9 nN, t3.keepX hk9 nN, hM⟩)
 clear hO hM hi9 hc9 hk9 X8
 go_upto_region 8 with (fail)
 obtain ⟨y, hy⟩ : ∃ y, w9.heap.size = y := ⟨_, rfl⟩
 rw [hy]
 obtain ⟨w10, hw10⟩ : ∃ W, ((w9.alloc (.cells #[.pointer (pa m)] 27)).alloc (.map #[] 0)).alloc (.cells #[.map (some (y + 1))] 206) = W := ⟨_, rfl⟩
 have hb10 : Below w9.heap.size w9 w10 := by rw [← hw10]; exact (((Below.refl _ w9).alloc (Nat.le_refl _) _).alloc (by simp) _).alloc (by simp; omega) _
 have z10 : w10.heap.size = y + 3 := by rw [← hw10, ← hy]; simp
 have c0 : Boxed w10 y 27 (.pointer (pa m)) := by rw [← hw10, ← hy]; exact ((Boxed.new w9 _ _).alloc _).alloc _
 have c1 : w10.heap[y + 1]? = some (.map #[] 0) := by
  have := allocs_get [.cells #[.pointer (pa m)] 27, .map #[] 0, .cells #[.map (some (y + 1))] 206] w9 1 _ rfl
  rw [hy] at this
  rw [← hw10]; exact this
 have c2 : Boxed w10 (y + 2) 206 (.map (some (y + 1))) := by
  have := allocs_get [.cells #[.pointer (pa m)] 27, .map #[] 0, .cells #[.map (some (y + 1))] 206] w9 2 _ rfl
  rw [hy] at this
  rw [← hw10]; exact this
 have hzy : z + 8 ≤ y := by omega
 rw [hw10]
 have k0 := cell_of_one (boxStays X9.out.1 hb10)
 have k1 := cell_of_one (boxStays X9.out.2.1 hb10)
 have k2 := cell_of_one (boxStays X9.out.2.2.1 hb10)
 obtain ⟨w11, hw11⟩ : ∃ W, w10.alloc (.cells #[.pointer (pa s), .pointer (pa a), .pointer (pa o)] 27) = W := ⟨_, rfl⟩
 have hb11 : Below w10.heap.size w10 w11 := by rw [← hw11]; exact below_new _ _
 have hbb := hb10.trans (hb11.mono hb10.size)
 obtain ⟨n, hn⟩ : ∃ n, asked.length = n := ⟨_, rfl⟩
 have hnl : n ≤ 1073741824 := by rw [← hn]; have := OO.out.len; omega
 have f0 : Facts (runHS m s a o z y n 0 ++ markF []) w11 := by
  intro p hp
  simp only [runHS, markF, List.map_nil, List.append_nil, List.mem_cons, List.not_mem_nil, or_false] at hp
  rcases hp with rfl | rfl | rfl | rfl | rfl | rfl
  · exact boxStays c0 hb11
  · exact boxStays c2 hb11
  · exact boxStays X9.out.2.2.2.1 hbb
  · exact boxStays X9.out.2.2.2.2.1 hbb
  · have h9 := C9.out
    rw [hn] at h9
    exact boxStays (by simpa [CntAtS] using h9) hbb
  · show w11.heap[y + 3]? = _
    rw [← hw11, ← z10]; exact heap_alloc_new _ _
 have m0 : oldMS s a o (y + 1) w11 := ⟨[], ⟨_, _, boxStays c1 hb11, rfl⟩, fun b hb => by cases hb⟩
 have F0 := Lib.hid f0
 have M0 := Lib.hid m0
 have B11 : Hid (Below y w9 w11) := Lib.hid (by rw [← hy]; exact hbb)
 have z11 : y + 4 ≤ w11.heap.size := by rw [← hw11]; simp; omega
 have HN := Lib.hid hn
 have HY := Lib.hid hy
 clear c0 c1 c2 f0 m0 hb10 hb11 hbb hw10 hy hn
 go_wp2_with fail
 try rw [hw11]
 clear hw11 k0 k1 k2
 refine wp_loop (fun a' w1 => ∃ (u : Nat) (Ds : List Nat), a' = { tmps := runTS (fun i => a'.tmps.getD i undef) z y u, defers := marks Ds } ∧ Ds.length = u ∧ u ≤ 3 ∧ Ds.Nodup ∧ (∀ D ∈ Ds, y + 4 ≤ D) ∧ Hid (Facts (runHS m s a o z y n 0 ++ markF Ds) w1) ∧ Hid (oldMS s a o (y + 1) w1) ∧ Hid (Below y w9 w1) ∧ Hid ((0 < u → ¬ pa m = pa s) ∧ (1 < u → ¬ pa m = pa a) ∧ (2 < u → ¬ pa m = pa o))) (fun a' _ => 3 - a'.defers.length) ⟨0, [], rfl, rfl, by omega, List.nodup_nil, by simp, F0, M0, B11, Lib.hid ⟨fun h => by omega, fun h => by omega, fun h => by omega⟩⟩ ?_
 clear F0 M0 B11 z11 z10
 have FINR : Hid (∀ (k : Nat) (W' : World), k ≤ sz m → (pa m = pa s ∨ pa m = pa a ∨ pa m = pa o → k = 0) → KeepX (ownXS z) w9 W' →
  ∃ (m' : Tr ByteArray) (asked' : List ByteArray) (made : Nat), Ending.returned (.tuple #[.agg #[.pointer (pa m)], .agg #[.int .i64 (n : Int), .int .i64 (n : Int), .int .i64 (k : Int)], .int .i64 0]) = .returned (.tuple #[.agg #[.pointer (pa m')], .agg #[.int .i64 (asked'.length : Int), .int .i64 (asked'.length : Int), .int .i64 (made : Int)], .int .i64 0]) ∧
   WlkO (⟨#[]⟩ : ByteArray) R B0 A0 O0 (fun _ => True) s a o m' asked' ∧ AtS W' m' ∧ I asked' W' ∧ made ≤ sz m' ∧ (pa m' = pa s ∨ pa m' = pa a ∨ pa m' = pa o → made = 0) ∧ KeepX Ex w W' ∧ TopWS s a o m' asked') := Lib.hid (fun k W' h1 h2 h3 => by
  refine ⟨m, asked, k, by rw [HN.out], OO.out, X9.out.2.2.2.2.2.2.2.2.keepX h3 (fun k h => ?_), HR.out.own _ _ _ (by simpa using I9.out) h3, h1, h2, ?_, HTW.out⟩
  · rcases h.2 with h | h <;> exact absurd h (by decide)
  · have q1 : KeepX (fun k t => Ex k t ∨ z ≤ k) w w8 := K8.out.monoX fun k t h => .inl h
    have q2 : KeepX (fun k t => Ex k t ∨ z ≤ k) w8 w9 := K9.out.monoX fun k t h => h.elim .inl fun h => .inr (by omega)
    have q3 : KeepX (fun k t => Ex k t ∨ z ≤ k) w9 W' := h3.monoX fun k t h => .inr h.1
    exact ((q1.trans q2).trans q3).less fun k t hk h => h.elim id fun h => by omega)
 have CB9 : Hid (∀ t : Tr ByteArray, AtS w9 t → z + 1 + 1 + 1 + 1 + 1 + 1 ∉ blocks t) := Lib.hid (fun t h => h.other (by have h9 := C9.out; unfold CntAtS at h9; exact h9) (by decide))
 have CK9 : Hid (CntAtS (z + 1 + 1 + 1 + 1 + 1 + 1) (0 + asked.length) (0 + asked.length) w9) := C9
 clear K8 K9 I9 C9
 rintro a' w1 ⟨u, Ds, he, hlen, hu, hnd, hD4, HF, HM, HB, HNS⟩
 generalize (fun i => a'.tmps.getD i undef) = g at he
 subst he
 simp only [runTS]
 by_cases hu3 : u < 3
 · have hui : (u : Int) < 3 := by omega
   obtain ⟨x, hxu, hcx⟩ : ∃ x : Tr ByteArray, ((u = 0 ∧ x = s) ∨ (u = 1 ∧ x = a) ∨ (u = 2 ∧ x = o)) ∧ w1.cell? ⟨y + 3, u, none⟩ = some (.pointer (pa x)) := by
    have h3 : w1.heap[y + 3]? = some (.cells #[.pointer (pa s), .pointer (pa a), .pointer (pa o)] 27 (0, 0)) := HF.out (y + 3, _) (List.mem_append_left _ (by simp [runHS]))
    have hu012 : u = 0 ∨ u = 1 ∨ u = 2 := by omega
    rcases hu012 with e | e | e
    · rw [e]; exact ⟨s, .inl ⟨rfl, rfl⟩, cell_of_row _ _ 0 _ _ _ h3⟩
    · rw [e]; exact ⟨a, .inr (.inl ⟨rfl, rfl⟩), cell_of_row _ _ 1 _ _ _ h3⟩
    · rw [e]; exact ⟨o, .inr (.inr ⟨rfl, rfl⟩), cell_of_row _ _ 2 _ _ _ h3⟩
   have hx : x = s ∨ x = a ∨ x = o := by rcases hxu with h | h | h <;> simp [h.2]
   have HXU := Lib.hid hxu
   clear hxu
   go_upto_region 11 with (fail)
   obtain ⟨t, ht⟩ : ∃ t, w1.heap.size = t := ⟨_, rfl⟩
   rw [ht]
   obtain ⟨w2, hw2⟩ : ∃ W, w1.alloc (.cells #[.pointer (pa x)] 27) = W := ⟨_, rfl⟩
   rw [hw2]
   have hb2 : Below w1.heap.size w1 w2 := by rw [← hw2]; exact below_new _ _
   have x2 : Boxed w2 t 27 (.pointer (pa x)) := by rw [← hw2, ← ht]; exact Boxed.new _ _ _
   have hty : y ≤ t := by rw [← ht, ← HY.out]; exact HB.out.size
   have F2 := Lib.hid (HF.out.below hb2)
   have M2 := Lib.hid (HM.out.below hb2)
   have B2 : Hid (Below y w9 w2) := Lib.hid (HB.out.trans (hb2.mono (by omega)))
   have X2 := Lib.hid x2
   clear hw2 hb2 x2 HF HM HB hcx ht
   have k1 := cell_of_one (F2.out (y, _) (List.mem_append_left _ List.mem_cons_self))
   have k2 := cell_of_one X2.out
   have hax : AtS w2 x := by
    have h9 := X9.out
    have hyy : y = w9.heap.size := HY.out.symm
    rcases hx with rfl | rfl | rfl
    · exact h9.2.2.2.2.2.1.below B2.out hyy
    · exact h9.2.2.2.2.2.2.1.below B2.out hyy
    · exact h9.2.2.2.2.2.2.2.1.below B2.out hyy
   have hmx : AtS w2 m := X9.out.2.2.2.2.2.2.2.2.below B2.out HY.out.symm
   have AX := Lib.hid hax
   have AM := Lib.hid hmx
   clear hax hmx
   go_wp2_with fail
   refine (pm_MSameS m x w2 AM.out AX.out).mono ?_
   rintro e w3 ⟨rfl, hb⟩
   have hby : Below y w2 w3 := hb.mono (by have := B2.out.size; have := HY.out; omega)
   have F3 := Lib.hid (F2.out.below hb)
   have M3 := Lib.hid (M2.out.below hb)
   have B3 : Hid (Below y w9 w3) := Lib.hid (B2.out.trans hby)
   have X3 := Lib.hid (boxStays X2.out hb)
   replace AX := Lib.hid (AX.out.below hb rfl)
   clear hb hby F2 M2 B2 X2 AM k1 k2
   by_cases hsm : pa m = pa x
   · rw [decide_eq_true hsm]
     have HSM := Lib.hid hsm
     clear hsm
     as_aux_lemma =>
      go_upto_region 12 with (fail)
      refine wp_region_noPanic ?_
      refine wp_region_held_drew (S := fun w' => KeepX (endXS z) w3 w') (by kernel_rfl) (KeepX.refl _).drew (fun hS => ?_)
      refine tk (i := 0) (oi := ⟨some 42, _, _, _, _, _⟩) (v := ?_) rfl (Or.inl ⟨by rfl, ?_⟩) hS ?_
      rotate_left 1
      · intro w' hB; have g1 := cell_of_one (hB.row (F3.out (y, _) (List.mem_append_left _ List.mem_cons_self)) (fun h => by rcases h with h | h <;> omega)); have hcc := hB.row (F3.out (z + 1 + 1 + 1 + 1 + 1 + 1, .cells #[.int .i64 (n : Int), .int .i64 (n : Int), .int .i64 ((0 : Nat) : Int)] 126 (0, 0)) (List.mem_append_left _ (by simp [runHS]))) (fun h => by rcases h with h | h <;> omega); have g2 := cell_of_row _ (z + 1 + 1 + 1 + 1 + 1 + 1) 0 _ _ _ hcc; have g3 := cell_of_row _ (z + 1 + 1 + 1 + 1 + 1 + 1) 1 _ _ _ hcc; have g4 := cell_of_row _ (z + 1 + 1 + 1 + 1 + 1 + 1) 2 _ _ _ hcc; clear hcc; (go_simp <;> with_reducible rfl)
      try simp only [Act.put, zA, zB, zC]
      refine tk (i := 1) (oi := ⟨some 43, _, _, _, _, _⟩) (v := ?_) rfl (Or.inl ⟨by rfl, ?_⟩) hS ?_
      rotate_left 1
      · intro w' hB; have g1 := cell_of_one (hB.row (F3.out (y, _) (List.mem_append_left _ List.mem_cons_self)) (fun h => by rcases h with h | h <;> omega)); have hcc := hB.row (F3.out (z + 1 + 1 + 1 + 1 + 1 + 1, .cells #[.int .i64 (n : Int), .int .i64 (n : Int), .int .i64 ((0 : Nat) : Int)] 126 (0, 0)) (List.mem_append_left _ (by simp [runHS]))) (fun h => by rcases h with h | h <;> omega); have g2 := cell_of_row _ (z + 1 + 1 + 1 + 1 + 1 + 1) 0 _ _ _ hcc; have g3 := cell_of_row _ (z + 1 + 1 + 1 + 1 + 1 + 1) 1 _ _ _ hcc; have g4 := cell_of_row _ (z + 1 + 1 + 1 + 1 + 1 + 1) 2 _ _ _ hcc; clear hcc; (go_simp <;> with_reducible rfl)
      try simp only [Act.put, zA, zB, zC]
      refine wpAnyH_ready (rs := [2]) (by kernel_rfl) (by simp) (AllReadyH.cons (o := ⟨none, _, _, _, _, _⟩) rfl (fun K hK => ?_) AllReadyH.nil)
      have x4 : Boxed w3 (z + 1 + 1 + 1 + 1) 27 (.pointer none) := F3.out (z + 1 + 1 + 1 + 1, .cells #[.pointer none] 27 (0, 0)) (List.mem_append_left _ (by simp [runHS]))
      have XZ4 := Lib.hid (heap_setCell_same _ (z + 1 + 1 + 1 + 1) 0 _ _ (.pointer (pa m)) x4)
      have k4 := cell_of_one x4
      have f4 := frozen_of_row _ (z + 1 + 1 + 1 + 1) 0 _ _ x4
      replace hS := hS.setRow x4 (Or.inl ⟨rfl, rfl⟩) 0 (.pointer (pa m))
      go_simp
      refine hK.out _ _ hS (fun _ => ?_)
      clear hK K k4 f4 x4
      try simp only [Act.put, zA, zB, zC]
      refine wpAnyH_ready (rs := [3]) (by kernel_rfl) (by simp) (AllReadyH.cons (o := ⟨none, _, _, _, _, _⟩) rfl (fun K hK => ?_) AllReadyH.nil)
      have x5 : (w3.setCell ⟨z + 1 + 1 + 1 + 1, 0, none⟩ (.pointer (pa m))).heap[z + 1 + 1 + 1 + 1 + 1]? = some (.cells #[.int .i64 0, .int .i64 0, .int .i64 0] 126 (0, 0)) := (Below.heap_setCell _ _ _ _ (by simp)).trans (F3.out (z + 1 + 1 + 1 + 1 + 1, .cells #[.int .i64 0, .int .i64 0, .int .i64 0] 126 (0, 0)) (List.mem_append_left _ (by simp [runHS])))
      have k5 := cell_of_row _ (z + 1 + 1 + 1 + 1 + 1) 0 _ _ _ x5
      have k6 := cell_of_row _ (z + 1 + 1 + 1 + 1 + 1) 1 _ _ _ x5
      have k7 := cell_of_row _ (z + 1 + 1 + 1 + 1 + 1) 2 _ _ _ x5
      have f5 := frozen_of_row _ (z + 1 + 1 + 1 + 1 + 1) 0 _ _ x5
      have f6 := frozen_of_row _ (z + 1 + 1 + 1 + 1 + 1) 1 _ _ x5
      have f7 := frozen_of_row _ (z + 1 + 1 + 1 + 1 + 1) 2 _ _ x5
      have x6 := heap_setCell_same _ (z + 1 + 1 + 1 + 1 + 1) 0 _ _ (.int .i64 (n : Int)) x5
      have x7 := heap_setCell_same _ (z + 1 + 1 + 1 + 1 + 1) 1 _ _ (.int .i64 (n : Int)) x6
      replace hS := ((hS.setRow x5 (Or.inr ⟨rfl, rfl⟩) 0 (.int .i64 (n : Int))).setRow x6 (Or.inr ⟨rfl, rfl⟩) 1 (.int .i64 (n : Int))).setRow x7 (Or.inr ⟨rfl, rfl⟩) 2 (.int .i64 ((0 : Nat) : Int))
      replace XZ4 := Lib.hid ((Below.heap_setCell _ ⟨z + 1 + 1 + 1 + 1 + 1, 2, none⟩ (.int .i64 ((0 : Nat) : Int)) _ (by simp)).trans ((Below.heap_setCell _ ⟨z + 1 + 1 + 1 + 1 + 1, 1, none⟩ (.int .i64 (n : Int)) _ (by simp)).trans ((Below.heap_setCell _ ⟨z + 1 + 1 + 1 + 1 + 1, 0, none⟩ (.int .i64 (n : Int)) _ (by simp)).trans XZ4.out)))
      have X8 := Lib.hid (heap_setCell_same _ (z + 1 + 1 + 1 + 1 + 1) 2 _ _ (.int .i64 ((0 : Nat) : Int)) x7)
      go_simp
      refine hK.out _ _ hS (fun _ => ?_)
      clear hK K k5 k6 k7 f5 f6 f7 x5 x6 x7
      try simp only [Act.put, zA, zB, zC]
      refine tk (i := 4) (oi := ⟨some 10, _, _, _, _, _⟩) (v := ?_) rfl (Or.inl ⟨by rfl, ?_⟩) hS ?_
      rotate_left 1
      · intro w' hB; have g1 := cell_of_one (hB.row (F3.out (y, _) (List.mem_append_left _ List.mem_cons_self)) (fun h => by rcases h with h | h <;> omega)); have hcc := hB.row (F3.out (z + 1 + 1 + 1 + 1 + 1 + 1, .cells #[.int .i64 (n : Int), .int .i64 (n : Int), .int .i64 ((0 : Nat) : Int)] 126 (0, 0)) (List.mem_append_left _ (by simp [runHS]))) (fun h => by rcases h with h | h <;> omega); have g2 := cell_of_row _ (z + 1 + 1 + 1 + 1 + 1 + 1) 0 _ _ _ hcc; have g3 := cell_of_row _ (z + 1 + 1 + 1 + 1 + 1 + 1) 1 _ _ _ hcc; have g4 := cell_of_row _ (z + 1 + 1 + 1 + 1 + 1 + 1) 2 _ _ _ hcc; clear hcc; (go_simp <;> with_reducible rfl)
      try simp only [Act.put, zA, zB, zC]
      refine wpAnyH_done (by kernel_rfl) (NoPanic.normal ?_) _
      have HSE := Lib.hid hS
      clear hS
      go_wp2_with fail
      show LeavesInM _ _ _ _ _ _ (marks Ds) _ _
      have hk9 : KeepX (ownXS z) w9 _ := (KeepX.ofBelow (B3.out.mono (Nat.le_of_eq HY.out))).trans (HSE.out.monoX fun k t h => by
       rcases h with ⟨rfl, rfl⟩ | ⟨rfl, rfl⟩
       · exact ⟨by omega, .inr rfl⟩
       · exact ⟨by omega, .inl rfl⟩)
      refine leaves_marks Ds _ hnd (fun p hp => ?_) ?_
      · have hp' := hp
        obtain ⟨D, hD, rfl⟩ := List.mem_map.1 hp
        exact HSE.out.rest _ _ (F3.out _ (List.mem_append_right _ hp')) (fun c t fr e => by cases e)
      · intro W' e1 e2 e3 e4 e5
        have n4 : z + 1 + 1 + 1 + 1 ∉ Ds := fun h => by have := hD4 _ h; omega
        have n5 : z + 1 + 1 + 1 + 1 + 1 ∉ Ds := fun h => by have := hD4 _ h; omega
        have h4 := (e5 _ n4).trans XZ4.out
        have h5 := (e5 _ n5).trans X8.out
        have kw : KeepX (ownXS z) w9 W' := ⟨e1.trans hk9.os, e2.trans hk9.tape, e3.trans hk9.output, by rw [e4]; exact hk9.size, fun k o ho ht => (e5 k (fun h => by
         have := hD4 _ h
         have := (Array.getElem?_eq_some_iff.1 ho).1
         have := HY.out
         omega)).trans (hk9.rest k o ho ht)⟩
        have KW := Lib.hid kw
        have c4 : W'.cell? ⟨z + 1 + 1 + 1 + 1, 0, none⟩ = some (.pointer (pa m)) := cell_of_one (by simpa using h4)
        have c5 : W'.cell? ⟨z + 1 + 1 + 1 + 1 + 1, 0, none⟩ = some (.int .i64 (n : Int)) := cell_of_row _ _ _ _ _ _ (by simpa using h5)
        have c6 : W'.cell? ⟨z + 1 + 1 + 1 + 1 + 1, 1, none⟩ = some (.int .i64 (n : Int)) := cell_of_row _ _ _ _ _ _ (by simpa using h5)
        have c7 : W'.cell? ⟨z + 1 + 1 + 1 + 1 + 1, 2, none⟩ = some (.int .i64 ((0 : Nat) : Int)) := cell_of_row _ _ _ _ _ _ (by simpa using h5)
        clear e1 e2 e3 e4 e5 h4 h5 kw hk9
        refine ⟨.tuple #[.agg #[.pointer (pa m)], .agg #[.int .i64 (n : Int), .int .i64 (n : Int), .int .i64 ((0 : Nat) : Int)], .int .i64 0], by simp [results, Tryz.results113, go_sem, c4, c5, c6, c7], ?_⟩
        exact FINR.out 0 W' (Nat.zero_le _) (fun _ => rfl) KW.out
   · rw [decide_eq_false hsm]
     have HNSM := Lib.hid hsm
     clear hsm
     as_aux_lemma =>
      have k2 := cell_of_one X3.out
      go_wp2_with fail
      refine (pm_MNodesS x w3).mono ?_
      rintro e w4 ⟨mb, rfl, hmb, hbx, hb⟩
      have hby : Below y w3 w4 := hb.mono (by have := B3.out.size; have := HY.out; omega)
      have F4 := Lib.hid (F3.out.below hb)
      have M4 := Lib.hid (M3.out.below hb)
      have B4 : Hid (Below y w9 w4) := Lib.hid (B3.out.trans hby)
      replace AX := Lib.hid (AX.out.below hb rfl)
      have hyw : y ≤ w9.heap.size := Nat.le_of_eq HY.out.symm
      have hlow : ∀ b ∈ blocks x, b < y := by
       rw [← HY.out]
       rcases hx with rfl | rfl | rfl
       · exact X9.out.2.2.2.2.2.1.lt
       · exact X9.out.2.2.2.2.2.2.1.lt
       · exact X9.out.2.2.2.2.2.2.2.1.lt
      have hy4 : y + 4 ≤ w4.heap.size := by have := (Array.getElem?_eq_some_iff.1 (F4.out (y + 3, .cells #[.pointer (pa s), .pointer (pa a), .pointer (pa o)] 27 (0, 0)) (List.mem_append_left _ (by simp [runHS])))).1; omega
      have HIter := pm_nodes_iterS 5 x mb w4 (fun k => k < y) (fun _ => False) hbx AX.out hlow (fun k hk => by omega) (fun h => h)
      clear hb hby F3 M3 B3 X3 k2 hbx
      go_wp2_with fail
      obtain ⟨H, hH⟩ : ∃ H, runHS m s a o z y n 0 ++ markF Ds = H := ⟨_, rfl⟩
      have hHl : ∀ p ∈ H, p.1 < w4.heap.size := by rw [← hH]; exact F4.out.lt
      have hHn : ∀ p ∈ H, p.1 ≠ y + 1 := by
       rw [← hH]
       intro p hp
       rcases List.mem_append.1 hp with hp | hp
       · simp only [runHS, List.mem_cons, List.not_mem_nil, or_false] at hp
         rcases hp with rfl | rfl | rfl | rfl | rfl | rfl <;> simp <;> omega
       · obtain ⟨D, hD, rfl⟩ := List.mem_map.1 hp
         have := hD4 D hD
         simp
         omega
      have m14 : (y + 1 + 1, Obj.cells #[.map (some (y + 1))] 206 (0, 0)) ∈ H := by rw [← hH]; exact List.mem_append_left _ (by simp [runHS])
      have r4 : RnIS H s a o y w9 [] w4 := ⟨by rw [← hH]; exact F4.out, M4.out, B4.out⟩
      have HH := Lib.hid hH
      clear hH F4 M4 B4
      refine (wpIn_wide (n := 6)).1 ?_
      refine range_law2 (n := 6) rfl (enters_of Tryz.func185 (by kernel_rfl) rfl) HIter (by omega) KeepE.trans (fun W o o' _ _ => KeepE.put W _ o' (by omega) (fun k hk => by omega)) (fun x => rfl) (fun pre => (by rintro _ _ _ _ h _ _; exact h)) ?_ (RnIS H s a o y w9) (fun _ _ _ => False) (RnIS H s a o y w9) (rnI_ownS hHl (by omega) hyw) (fun _ _ _ _ _ h _ _ => h) ?_ ?_ r4
       (fun pre q a' W => RnIS H s a o y w9 pre W ∧ pre ++ [q] <+: nodesLS x ∧ a' = { tmps := #[g 0, g 1, g 2, g 3, g 4, g 5, g 6, g 7, .pointer (some ⟨z + 1 + 1 + 1 + 1, 0, none⟩), .pointer (some ⟨z + 1 + 1 + 1 + 1 + 1, 0, none⟩), .int .i64 0, .pointer (some ⟨z + 1 + 1 + 1 + 1 + 1 + 1, 0, none⟩), g 12, .pointer (some ⟨y, 0, none⟩), .pointer (some ⟨y + 1 + 1, 0, none⟩), g 15, .pointer (some ⟨t, 0, none⟩), .pointer (pa q), g 18, g 19, g 20, g 21, g 22, g 23, g 24, g 25, g 26, g 27, g 28, g 29, g 30, g 31, g 32, .slice (some ⟨y + 3, 0, none⟩) 3 3, .int .i64 3, .int .i64 (u : Int), .bool true, .pointer (some ⟨y + 3, u, none⟩), .agg #[.pointer (pa x)], .agg #[.pointer (pa m)], .agg #[.pointer (pa x)], .bool false, g 42, g 43, .agg #[.pointer (pa x)], .func (.func 185) #[] #[.pointer (some ⟨mb, 0, none⟩)], .pointer (pa q), g 47, g 48, g 49, g 50, g 51, g 52, g 53, g 54, g 55, g 56, g 57, g 58, g 59, g 60, g 61, g 62], defers := [] }) ?_ ?assign ?body ?done ?stop
      · rintro W1 _ xs A B ⟨_, rfl⟩ k o _ ho _; exact ho
      · exact rnI_ownS hHl (by omega) hyw
      · rintro W1 _ xs A B h ⟨h1, rfl⟩; exact h
      · rintro q a' pre A A' row ⟨h1, h2, h3⟩ hg hr
        exact ⟨rnI_ownS hHl (by omega) hyw pre A A' row h1 hg hr, h2, h3⟩
      case assign =>
       intro l pre q W K hi hx hsz hK
       have HI := Lib.hid hi
       clear hi
       simp only [encNS, List.zip_toArray, List.zip_cons_cons, List.zip_nil_right, List.foldl_toArray, List.foldl_cons, List.foldl_nil]
       gi_wp2
       exact hK _ _ ⟨Nat.le_refl _, fun _ _ _ h _ => h⟩ (KeepE.refl _) hsz ⟨HI.out, hx, rfl⟩
      case body =>
       rintro l pre q a' W ⟨⟨hf, hm, hb⟩, hp, rfl⟩ hsz
       obtain ⟨bx, lx, kx, vx, rx, rfl, hbx⟩ := nodesL_nodeS x q (hp.subset (by simp))
       obtain ⟨ps, hnm, hps⟩ := hm
       have hyy : y = w9.heap.size := HY.out.symm
       have hnds : NdsS W (bx :: ps) := by
        have hS9 : AtS W s := X9.out.2.2.2.2.2.1.below hb hyy
        have hA9 : AtS W a := X9.out.2.2.2.2.2.2.1.below hb hyy
        have hO9 : AtS W o := X9.out.2.2.2.2.2.2.2.1.below hb hyy
        intro d hd
        rcases List.mem_cons.1 hd with rfl | hd
        · rcases hx with rfl | rfl | rfl
          · exact hS9.nds _ hbx
          · exact hA9.nds _ hbx
          · exact hO9.nds _ hbx
        · rcases hps d hd with h | h | h
          · exact hS9.nds _ h
          · exact hA9.nds _ h
          · exact hO9.nds _ h
       obtain ⟨ob, ps', hmu, hnm', hps'⟩ := nodeMap_anyS hnm bx hnds
       have e4 := cell_of_one (hf _ m14)
       have hpa : pa (.node bx lx kx vx rx : Tr ByteArray) = some ⟨bx, 0, none⟩ := rfl
       have OM : Hid (oldMS s a o (y + 1) (W.putObj (y + 1) ob)) := Lib.hid ⟨ps', hnm', fun b hb => by
        rcases hps' b hb with rfl | h
        · rcases hx with rfl | rfl | rfl
          · exact .inl hbx
          · exact .inr (.inl hbx)
          · exact .inr (.inr hbx)
        · exact hps b h⟩
       have FF : Hid (Facts H (W.putObj (y + 1) ob)) := Lib.hid (hf.putObj hHn ob)
       have BB : Hid (Below y w9 (W.putObj (y + 1) ob)) := Lib.hid (hb.trans (below_put y W (y + 1) ob (by omega)))
       clear hf hb hnm hps hnds hnm' hps' hp hyy hbx
       gi_wp2
       exact ⟨⟨by simp, fun k o' hk ho _ => (World.putObj_heap_other (by omega)).trans ho⟩, KeepE.put W _ ob (by omega) (fun k hk => by omega), FF.out, OM.out, BB.out⟩
      case done =>
       rintro D xs W1 hD ⟨hf, hm, hb⟩ hK
       have HF := Lib.hid hf
       have HM := Lib.hid hm
       have HB := Lib.hid hb
       have HKD := Lib.hid hK
       clear HIter hf hm hb hK r4
       simp only [Exit.inBlock]
       go_wp2_with fail
       have hDn : D ∉ Ds := fun h => by
        have := hHl (D, .deferred (some [])) (by rw [← HH.out]; exact List.mem_append_right _ (List.mem_map.2 ⟨D, h, rfl⟩))
        simp at this
        omega
       refine ⟨⟨u + 1, D :: Ds, rfl, by simp [hlen], by omega, List.nodup_cons.2 ⟨hDn, hnd⟩, fun D' h => ?_, Lib.hid (fun p hp => ?_), HM, HB, Lib.hid ?_⟩, ?_⟩
       · rcases List.mem_cons.1 h with rfl | h
         · omega
         · exact hD4 D' h
       · rcases List.mem_append.1 hp with h | h
         · exact HF.out p (by rw [← HH.out]; exact List.mem_append_left _ h)
         · rcases List.mem_cons.1 h with rfl | h
           · exact HKD.out
           · exact HF.out p (by rw [← HH.out]; exact List.mem_append_right _ h)
       · rcases HXU.out with ⟨rfl, rfl⟩ | ⟨rfl, rfl⟩ | ⟨rfl, rfl⟩
         · exact ⟨fun _ => HNSM.out, fun h => by omega, fun h => by omega⟩
         · exact ⟨fun _ => HNS.out.1 (by omega), fun _ => HNSM.out, fun h => by omega⟩
         · exact ⟨fun _ => HNS.out.1 (by omega), fun _ => HNS.out.2.1 (by omega), fun _ => HNSM.out⟩
       · simp [marks, hlen]
         omega
      case stop =>
       rintro D c pre W1 hD hSp hF hK
       exact hF.elim
 · have hu3' : u = 3 := by omega
   have HNE : Hid (pa m = pa s ∨ pa m = pa a ∨ pa m = pa o → False) := Lib.hid (by
    rintro (h | h | h)
    · exact HNS.out.1 (by omega) h
    · exact HNS.out.2.1 (by omega) h
    · exact HNS.out.2.2 (by omega) h)
   have hui : ¬ (u : Int) < 3 := by omega
   clear HNS hu hu3 hlen
   have k1 := cell_of_one (HF.out (y, _) (List.mem_append_left _ List.mem_cons_self))
   go_wp2_with fail
   refine (pm_MNodesS m w1).mono ?_
   rintro e w4 ⟨mb, rfl, hmb, hbx, hb⟩
   have hyw : y ≤ w9.heap.size := Nat.le_of_eq HY.out.symm
   have hby : Below y w1 w4 := hb.mono (by have := HB.out.size; omega)
   have F4 := Lib.hid (HF.out.below hb)
   have M4 := Lib.hid (HM.out.below hb)
   have B4 : Hid (Below y w9 w4) := Lib.hid (HB.out.trans hby)
   have hlow : ∀ b ∈ blocks m, b < y := by rw [← HY.out]; exact X9.out.2.2.2.2.2.2.2.2.lt
   have hcm := CB9.out m X9.out.2.2.2.2.2.2.2.2
   have hy4 : y + 4 ≤ w4.heap.size := by have := (Array.getElem?_eq_some_iff.1 (F4.out (y + 3, .cells #[.pointer (pa s), .pointer (pa a), .pointer (pa o)] 27 (0, 0)) (List.mem_append_left _ (by simp [runHS])))).1; omega
   have AM : AtS w4 m := X9.out.2.2.2.2.2.2.2.2.below B4.out HY.out.symm
   have HIter := pm_nodes_iterS 5 m mb w4 (fun k => k < y ∧ k ≠ z + 1 + 1 + 1 + 1 + 1 + 1) (fun _ => False) hbx AM (fun b hb => ⟨hlow b hb, fun e => hcm (e ▸ hb)⟩) (fun k hk => by have := hk.1; omega) (fun h => h)
   have hHl : ∀ k, ∀ p ∈ runHS m s a o z y n k ++ markF Ds, p.1 < w4.heap.size := by
    intro k p hp
    rcases List.mem_append.1 hp with hp | hp
    · simp only [runHS, List.mem_cons, List.not_mem_nil, or_false] at hp
      rcases hp with rfl | rfl | rfl | rfl | rfl | rfl <;> simp <;> omega
    · exact F4.out.lt p (List.mem_append_right _ hp)
   have r4 : RnKS m s a o z y n Ds w9 [] w4 := ⟨0, Nat.le_refl _, F4.out, M4.out, SameBut.ofBelow B4.out⟩
   clear hb hby HF HM HB hbx k1 F4 M4 B4
   go_wp2_with fail
   have OWN := rnK_ownS (w9 := w9) hHl (by omega) hyw
   refine (wpIn_wide (n := 6)).1 ?_
   refine range_law2 (n := 6) rfl (enters_of Tryz.func185 (by kernel_rfl) rfl) HIter (by omega) KeepE.trans (fun W o o' _ _ => KeepE.put W _ o' (by omega) (fun k hk => by have := hk.1; omega)) (fun x => rfl) (fun pre => (by rintro _ _ _ _ h _ _; exact h)) ?_ (RnKS m s a o z y n Ds w9) (fun _ _ _ => False) (fun xs W => xs = nodesLS m ∧ RnKS m s a o z y n Ds w9 xs W) OWN (fun _ _ _ _ _ h _ _ => h) ?_ ?_ r4
    (fun pre q a' W => RnKS m s a o z y n Ds w9 pre W ∧ pre ++ [q] <+: nodesLS m ∧ a' = { tmps := #[g 0, g 1, g 2, g 3, g 4, g 5, g 6, g 7, .pointer (some ⟨z + 1 + 1 + 1 + 1, 0, none⟩), .pointer (some ⟨z + 1 + 1 + 1 + 1 + 1, 0, none⟩), .int .i64 0, .pointer (some ⟨z + 1 + 1 + 1 + 1 + 1 + 1, 0, none⟩), g 12, .pointer (some ⟨y, 0, none⟩), .pointer (some ⟨y + 1 + 1, 0, none⟩), g 15, g 16, g 17, .pointer (pa q), g 19, g 20, g 21, g 22, g 23, g 24, g 25, g 26, g 27, g 28, g 29, g 30, g 31, g 32, .slice (some ⟨y + 3, 0, none⟩) 3 3, .int .i64 3, .int .i64 3, .bool false, g 37, g 38, g 39, g 40, g 41, g 42, g 43, g 44, g 45, g 46, g 47, g 48, g 49, .agg #[.pointer (pa m)], .func (.func 185) #[] #[.pointer (some ⟨mb, 0, none⟩)], .pointer (pa q), g 53, g 54, g 55, g 56, g 57, g 58, g 59, g 60, g 61, g 62], defers := [] }) ?_ ?assign ?body ?done ?stop
   · rintro W1 _ xs A B ⟨_, rfl⟩ k o _ ho _; exact ho
   · rintro xs A A' row ⟨h1, h2⟩ hg hr; exact ⟨h1, OWN xs A A' row h2 hg hr⟩
   · rintro W1 _ xs A B h ⟨h1, rfl⟩; exact ⟨h1, h⟩
   · rintro q a' pre A A' row ⟨h1, h2, h3⟩ hg hr
     exact ⟨OWN pre A A' row h1 hg hr, h2, h3⟩
   case assign =>
    intro l pre q W K hi hx hsz hK
    have HI := Lib.hid hi
    clear hi
    simp only [encNS, List.zip_toArray, List.zip_cons_cons, List.zip_nil_right, List.foldl_toArray, List.foldl_cons, List.foldl_nil]
    gi_wp2
    exact hK _ _ ⟨Nat.le_refl _, fun _ _ _ h _ => h⟩ (KeepE.refl _) hsz ⟨HI.out, hx, rfl⟩
   case body =>
    rintro l pre q a' W ⟨⟨k, hk, hf, hm, hb⟩, hp, rfl⟩ hsz
    obtain ⟨bx, lx, kx, vx, rx, rfl, hbx⟩ := nodesL_nodeS m q (hp.subset (by simp))
    obtain ⟨ps, hnm, hps⟩ := hm
    have hnds : NdsS W (bx :: ps) := by
     have h9 := X9.out
     have low : ∀ t : Tr ByteArray, AtS w9 t → ∀ b ∈ blocks t, b < y := fun t ht => by rw [← HY.out]; exact ht.lt
     have hS9 : AtS W s := h9.2.2.2.2.2.1.sameBut hb (low s h9.2.2.2.2.2.1) (CB9.out s h9.2.2.2.2.2.1)
     have hA9 : AtS W a := h9.2.2.2.2.2.2.1.sameBut hb (low a h9.2.2.2.2.2.2.1) (CB9.out a h9.2.2.2.2.2.2.1)
     have hO9 : AtS W o := h9.2.2.2.2.2.2.2.1.sameBut hb (low o h9.2.2.2.2.2.2.2.1) (CB9.out o h9.2.2.2.2.2.2.2.1)
     have hM9 : AtS W m := h9.2.2.2.2.2.2.2.2.sameBut hb (low m h9.2.2.2.2.2.2.2.2) (CB9.out m h9.2.2.2.2.2.2.2.2)
     intro d hd
     rcases List.mem_cons.1 hd with rfl | hd
     · exact hM9.nds _ hbx
     · rcases hps d hd with h | h | h
       · exact hS9.nds _ h
       · exact hA9.nds _ h
       · exact hO9.nds _ h
    have hlk := nodeMap_lookS hnm bx hnds
    have hlen : (nodesLS m).length = sz m := by rw [← sz_blocks, ← (nodesL_permS m).length_eq, List.length_map]
    have hkb : k + 1 ≤ sz m := by have := hp.length_le; simp at this; omega
    have hmz : sz m ≤ 1073741824 := by have := OO.out.siz; omega
    have e4 := cell_of_one (hf (y + 1 + 1, .cells #[.map (some (y + 1))] 206 (0, 0)) (List.mem_append_left _ (by simp [runHS])))
    have hcc := hf (z + 1 + 1 + 1 + 1 + 1 + 1, .cells #[.int .i64 (n : Int), .int .i64 (n : Int), .int .i64 (k : Int)] 126 (0, 0)) (List.mem_append_left _ (by simp [runHS]))
    simp only at hcc
    have q2 := cell_of_row _ (z + 1 + 1 + 1 + 1 + 1 + 1) 2 _ _ _ hcc
    have f2 := frozen_of_row _ (z + 1 + 1 + 1 + 1 + 1 + 1) 2 _ _ hcc
    have hpa : pa (.node bx lx kx vx rx : Tr ByteArray) = some ⟨bx, 0, none⟩ := rfl
    have R0 : Hid (RnKS m s a o z y n Ds w9 (pre ++ [.node bx lx kx vx rx]) W) := Lib.hid ⟨k, by simp; omega, hf, ⟨ps, hnm, hps⟩, hb⟩
    have R1 : Hid (RnKS m s a o z y n Ds w9 (pre ++ [.node bx lx kx vx rx]) (W.setCell ⟨z + 1 + 1 + 1 + 1 + 1 + 1, 2, none⟩ (.int .i64 ((k : Int) + 1)))) := Lib.hid (by
     refine ⟨k + 1, by simp; omega, ?_, ⟨ps, ?_, hps⟩, hb.setCell 2 _⟩
     · intro p hp'
       rcases List.mem_append.1 hp' with hp' | hp'
       · simp only [runHS, List.mem_cons, List.not_mem_nil, or_false] at hp'
         have oth : ∀ p' : Nat × Obj, p' ∈ runHS m s a o z y n k → p'.1 ≠ z + 1 + 1 + 1 + 1 + 1 + 1 → (W.setCell ⟨z + 1 + 1 + 1 + 1 + 1 + 1, 2, none⟩ (.int .i64 ((k : Int) + 1))).heap[p'.1]? = some p'.2 := fun p' h1 h2 =>
          (Below.heap_setCell _ _ _ _ (by simpa using h2)).trans (hf p' (List.mem_append_left _ h1))
         rcases hp' with rfl | rfl | rfl | rfl | rfl | rfl
         · exact oth _ (by simp [runHS]) (by simp; omega)
         · exact oth _ (by simp [runHS]) (by simp; omega)
         · exact oth _ (by simp [runHS]) (by simp)
         · exact oth _ (by simp [runHS]) (by simp)
         · have := heap_setCell_same W (z + 1 + 1 + 1 + 1 + 1 + 1) 2 _ _ (.int .i64 ((k : Int) + 1)) hcc
           simpa using this
         · exact oth _ (by simp [runHS]) (by simp; omega)
       · refine (Below.heap_setCell _ _ _ _ ?_).trans (hf p (List.mem_append_right _ hp'))
         obtain ⟨D, hD, rfl⟩ := List.mem_map.1 hp'
         have := hD4 D hD
         simp
         omega
     · obtain ⟨es, q, h1, h2⟩ := hnm
       exact ⟨es, q, (Below.heap_setCell _ _ _ _ (by simp; omega)).trans h1, h2⟩)
    clear hf hb hnm hps hnds hp hbx hcc hlen hk
    by_cases hm : bx ∈ ps
    · rw [decide_eq_true hm] at hlk
      clear hm
      gi_wp2
      exact ⟨⟨Nat.le_refl _, fun _ _ _ h _ => h⟩, KeepE.refl _, R0.out⟩
    · rw [decide_eq_false hm] at hlk
      clear hm
      gi_wp2
      exact ⟨(KeepsOthers.setCell _ _ _).from _, KeepE.setCell W _ 2 _ (by omega) (fun h => h.2 rfl), R1.out⟩
   case done =>
    rintro D xs w3 hD ⟨rfl, k, hk, hf, hm, hb⟩ hK
    have hlen : (nodesLS m).length = sz m := by rw [← sz_blocks, ← (nodesL_permS m).length_eq, List.length_map]
    rw [hlen] at hk
    have F3 := Lib.hid hf
    have B3 := Lib.hid hb
    have HKD := Lib.hid hK
    have HLK := Lib.hid hk
    clear HIter hf hm hb hK r4 hlen hk
    simp only [Exit.inBlock]
    go_upto_region 21 with (fail)
    have hD42 : ∀ D' ∈ D :: Ds, y + 4 ≤ D' := fun D' h => by
     rcases List.mem_cons.1 h with rfl | h
     · omega
     · exact hD4 D' h
    have hDn : D ∉ Ds := fun h => by
     have := hHl 0 (D, .deferred (some [])) (List.mem_append_right _ (List.mem_map.2 ⟨D, h, rfl⟩))
     simp at this
     omega
    have hnd2 : (D :: Ds).Nodup := List.nodup_cons.2 ⟨hDn, hnd⟩
    have kw3 : KeepX (ownXS z) w9 w3 := ⟨B3.out.os, B3.out.tape, B3.out.output, B3.out.size, fun k' o' ho ht => by
     by_cases hk' : k' = z + 1 + 1 + 1 + 1 + 1 + 1
     · subst hk'
       have hc := CK9.out
       unfold CntAtS at hc
       rw [hc] at ho
       cases ho
       exact absurd ⟨by omega, .inl rfl⟩ (ht _ _ _ rfl)
     · exact (B3.out.block k' (by have := (Array.getElem?_eq_some_iff.1 ho).1; have := HY.out; omega) hk').trans ho⟩
    refine wp_region_noPanic ?_
    refine wp_region_held_drew (S := fun w' => KeepX (endXS z) w3 w') (by kernel_rfl) (KeepX.refl _).drew (fun hS => ?_)
    refine tk (i := 0) (oi := ⟨some 61, _, _, _, _, _⟩) (v := ?_) rfl (Or.inl ⟨by rfl, ?_⟩) hS ?_
    rotate_left 1
    · intro w' hB; have g1 := cell_of_one (hB.row (F3.out (y, _) (List.mem_append_left _ List.mem_cons_self)) (fun h => by rcases h with h | h <;> omega)); have hcc := hB.row (F3.out (z + 1 + 1 + 1 + 1 + 1 + 1, .cells #[.int .i64 (n : Int), .int .i64 (n : Int), .int .i64 (k : Int)] 126 (0, 0)) (List.mem_append_left _ (by simp [runHS]))) (fun h => by rcases h with h | h <;> omega); have g2 := cell_of_row _ (z + 1 + 1 + 1 + 1 + 1 + 1) 0 _ _ _ hcc; have g3 := cell_of_row _ (z + 1 + 1 + 1 + 1 + 1 + 1) 1 _ _ _ hcc; have g4 := cell_of_row _ (z + 1 + 1 + 1 + 1 + 1 + 1) 2 _ _ _ hcc; clear hcc; (go_simp <;> with_reducible rfl)
    try simp only [Act.put, zA, zB, zC]
    refine tk (i := 1) (oi := ⟨some 62, _, _, _, _, _⟩) (v := ?_) rfl (Or.inl ⟨by rfl, ?_⟩) hS ?_
    rotate_left 1
    · intro w' hB; have g1 := cell_of_one (hB.row (F3.out (y, _) (List.mem_append_left _ List.mem_cons_self)) (fun h => by rcases h with h | h <;> omega)); have hcc := hB.row (F3.out (z + 1 + 1 + 1 + 1 + 1 + 1, .cells #[.int .i64 (n : Int), .int .i64 (n : Int), .int .i64 (k : Int)] 126 (0, 0)) (List.mem_append_left _ (by simp [runHS]))) (fun h => by rcases h with h | h <;> omega); have g2 := cell_of_row _ (z + 1 + 1 + 1 + 1 + 1 + 1) 0 _ _ _ hcc; have g3 := cell_of_row _ (z + 1 + 1 + 1 + 1 + 1 + 1) 1 _ _ _ hcc; have g4 := cell_of_row _ (z + 1 + 1 + 1 + 1 + 1 + 1) 2 _ _ _ hcc; clear hcc; (go_simp <;> with_reducible rfl)
    try simp only [Act.put, zA, zB, zC]
    refine wpAnyH_ready (rs := [2]) (by kernel_rfl) (by simp) (AllReadyH.cons (o := ⟨none, _, _, _, _, _⟩) rfl (fun K hK => ?_) AllReadyH.nil)
    have x4 : Boxed w3 (z + 1 + 1 + 1 + 1) 27 (.pointer none) := F3.out (z + 1 + 1 + 1 + 1, .cells #[.pointer none] 27 (0, 0)) (List.mem_append_left _ (by simp [runHS]))
    have XZ4 := Lib.hid (heap_setCell_same _ (z + 1 + 1 + 1 + 1) 0 _ _ (.pointer (pa m)) x4)
    have k4 := cell_of_one x4
    have f4 := frozen_of_row _ (z + 1 + 1 + 1 + 1) 0 _ _ x4
    replace hS := hS.setRow x4 (Or.inl ⟨rfl, rfl⟩) 0 (.pointer (pa m))
    go_simp
    refine hK.out _ _ hS (fun _ => ?_)
    clear hK K k4 f4 x4
    try simp only [Act.put, zA, zB, zC]
    refine wpAnyH_ready (rs := [3]) (by kernel_rfl) (by simp) (AllReadyH.cons (o := ⟨none, _, _, _, _, _⟩) rfl (fun K hK => ?_) AllReadyH.nil)
    have x5 : (w3.setCell ⟨z + 1 + 1 + 1 + 1, 0, none⟩ (.pointer (pa m))).heap[z + 1 + 1 + 1 + 1 + 1]? = some (.cells #[.int .i64 0, .int .i64 0, .int .i64 0] 126 (0, 0)) := (Below.heap_setCell _ _ _ _ (by simp)).trans (F3.out (z + 1 + 1 + 1 + 1 + 1, .cells #[.int .i64 0, .int .i64 0, .int .i64 0] 126 (0, 0)) (List.mem_append_left _ (by simp [runHS])))
    have k5 := cell_of_row _ (z + 1 + 1 + 1 + 1 + 1) 0 _ _ _ x5
    have k6 := cell_of_row _ (z + 1 + 1 + 1 + 1 + 1) 1 _ _ _ x5
    have k7 := cell_of_row _ (z + 1 + 1 + 1 + 1 + 1) 2 _ _ _ x5
    have f5 := frozen_of_row _ (z + 1 + 1 + 1 + 1 + 1) 0 _ _ x5
    have f6 := frozen_of_row _ (z + 1 + 1 + 1 + 1 + 1) 1 _ _ x5
    have f7 := frozen_of_row _ (z + 1 + 1 + 1 + 1 + 1) 2 _ _ x5
    have x6 := heap_setCell_same _ (z + 1 + 1 + 1 + 1 + 1) 0 _ _ (.int .i64 (n : Int)) x5
    have x7 := heap_setCell_same _ (z + 1 + 1 + 1 + 1 + 1) 1 _ _ (.int .i64 (n : Int)) x6
    replace hS := ((hS.setRow x5 (Or.inr ⟨rfl, rfl⟩) 0 (.int .i64 (n : Int))).setRow x6 (Or.inr ⟨rfl, rfl⟩) 1 (.int .i64 (n : Int))).setRow x7 (Or.inr ⟨rfl, rfl⟩) 2 (.int .i64 (k : Int))
    replace XZ4 := Lib.hid ((Below.heap_setCell _ ⟨z + 1 + 1 + 1 + 1 + 1, 2, none⟩ (.int .i64 (k : Int)) _ (by simp)).trans ((Below.heap_setCell _ ⟨z + 1 + 1 + 1 + 1 + 1, 1, none⟩ (.int .i64 (n : Int)) _ (by simp)).trans ((Below.heap_setCell _ ⟨z + 1 + 1 + 1 + 1 + 1, 0, none⟩ (.int .i64 (n : Int)) _ (by simp)).trans XZ4.out)))
    have X8 := Lib.hid (heap_setCell_same _ (z + 1 + 1 + 1 + 1 + 1) 2 _ _ (.int .i64 (k : Int)) x7)
    go_simp
    refine hK.out _ _ hS (fun _ => ?_)
    clear hK K k5 k6 k7 f5 f6 f7 x5 x6 x7
    try simp only [Act.put, zA, zB, zC]
    refine tk (i := 4) (oi := ⟨some 10, _, _, _, _, _⟩) (v := ?_) rfl (Or.inl ⟨by rfl, ?_⟩) hS ?_
    rotate_left 1
    · intro w' hB; have g1 := cell_of_one (hB.row (F3.out (y, _) (List.mem_append_left _ List.mem_cons_self)) (fun h => by rcases h with h | h <;> omega)); have hcc := hB.row (F3.out (z + 1 + 1 + 1 + 1 + 1 + 1, .cells #[.int .i64 (n : Int), .int .i64 (n : Int), .int .i64 (k : Int)] 126 (0, 0)) (List.mem_append_left _ (by simp [runHS]))) (fun h => by rcases h with h | h <;> omega); have g2 := cell_of_row _ (z + 1 + 1 + 1 + 1 + 1 + 1) 0 _ _ _ hcc; have g3 := cell_of_row _ (z + 1 + 1 + 1 + 1 + 1 + 1) 1 _ _ _ hcc; have g4 := cell_of_row _ (z + 1 + 1 + 1 + 1 + 1 + 1) 2 _ _ _ hcc; clear hcc; (go_simp <;> with_reducible rfl)
    try simp only [Act.put, zA, zB, zC]
    refine wpAnyH_done (by kernel_rfl) (NoPanic.normal ?_) _
    have HSE := Lib.hid hS
    clear hS
    go_wp2_with fail
    show LeavesInM _ _ _ _ _ _ (marks (D :: Ds)) _ _
    have hk9 : KeepX (ownXS z) w9 _ := kw3.trans (HSE.out.monoX fun k t h => by
     rcases h with ⟨rfl, rfl⟩ | ⟨rfl, rfl⟩
     · exact ⟨by omega, .inr rfl⟩
     · exact ⟨by omega, .inl rfl⟩)
    refine leaves_marks (D :: Ds) _ hnd2 (fun p hp => ?_) ?_
    · obtain ⟨D2, hD, rfl⟩ := List.mem_map.1 hp
      rcases List.mem_cons.1 hD with rfl | hD
      · exact HSE.out.rest _ _ HKD.out (fun c t fr e => by cases e)
      · exact HSE.out.rest _ _ (F3.out (_, .deferred (some [])) (List.mem_append_right _ (List.mem_map.2 ⟨_, hD, rfl⟩))) (fun c t fr e => by cases e)
    · intro W' e1 e2 e3 e4 e5
      have n4 : z + 1 + 1 + 1 + 1 ∉ D :: Ds := fun h => by have := hD42 _ h; omega
      have n5 : z + 1 + 1 + 1 + 1 + 1 ∉ D :: Ds := fun h => by have := hD42 _ h; omega
      have h4 := (e5 _ n4).trans XZ4.out
      have h5 := (e5 _ n5).trans X8.out
      have kw : KeepX (ownXS z) w9 W' := ⟨e1.trans hk9.os, e2.trans hk9.tape, e3.trans hk9.output, by rw [e4]; exact hk9.size, fun k o ho ht => (e5 k (fun h => by
       have := hD42 _ h
       have := (Array.getElem?_eq_some_iff.1 ho).1
       have := HY.out
       omega)).trans (hk9.rest k o ho ht)⟩
      have KW := Lib.hid kw
      have c4 : W'.cell? ⟨z + 1 + 1 + 1 + 1, 0, none⟩ = some (.pointer (pa m)) := cell_of_one (by simpa using h4)
      have c5 : W'.cell? ⟨z + 1 + 1 + 1 + 1 + 1, 0, none⟩ = some (.int .i64 (n : Int)) := cell_of_row _ _ _ _ _ _ (by simpa using h5)
      have c6 : W'.cell? ⟨z + 1 + 1 + 1 + 1 + 1, 1, none⟩ = some (.int .i64 (n : Int)) := cell_of_row _ _ _ _ _ _ (by simpa using h5)
      have c7 : W'.cell? ⟨z + 1 + 1 + 1 + 1 + 1, 2, none⟩ = some (.int .i64 (k : Int)) := cell_of_row _ _ _ _ _ _ (by simpa using h5)
      clear e1 e2 e3 e4 e5 h4 h5 kw hk9
      refine ⟨.tuple #[.agg #[.pointer (pa m)], .agg #[.int .i64 (n : Int), .int .i64 (n : Int), .int .i64 (k : Int)], .int .i64 0], by simp [results, Tryz.results113, go_sem, c4, c5, c6, c7], ?_⟩
      exact FINR.out k W' HLK.out (fun h => (HNE.out h).elim) KW.out
   case stop =>
    rintro D c pre W1 hD hSp hF hK
    exact hF.elim
end Go.Proofs.YtjlliohjeiclaaaGreatDoor
namespace Go.Proofs.YtjlliohjeiclaaaGreatDoor
open Go.RowKit Pm
theorem keep_ruleS (B0 A0 O0 : ByteArray → ByteArray × Bool) (B : Nat) : RuleOKS (fun _ _ => False) 114 #[] (fun k => keepFS (B0 k) (A0 k) (O0 k)) B0 A0 O0 B (fun _ _ => True) where
 own := fun _ _ _ _ _ => trivial
 call := fun key xs W _ _ _ => (wk_KeepS key (B0 key) (A0 key) (O0 key) W).mono fun e w' h => ⟨h.1, trivial, KeepX.ofBelow h.2⟩
 enters := enters_of Tryz.func114 (by kernel_rfl) rfl
 nNode := fun _ h => h
 nCount := fun _ h => h
 nMap := fun _ h => h
 nGo := fun _ h => h
 nRule := fun _ h => h
def endYS (z : Nat) (k : Nat) (t : TypeId) : Prop := (k = z + 1 + 1 + 1 ∧ t = 27) ∨ (k = z + 1 + 1 + 1 + 1 ∧ t = 126)
set_option maxRecDepth 100000 in
set_option maxHeartbeats 4000000 in
theorem wk_ElementsS {B0 A0 O0 : ByteArray → ByteArray × Bool} (s a o : Tr ByteArray) (w : World) (hz : sz a + sz o ≤ 1073741824) (hzs : sz s ≤ 1073741824) (hI : WlkI (⟨#[]⟩ : ByteArray) B0 A0 O0 (fun _ => True) s a o) (hs : AtS w s) (ha : AtS w a) (ho : AtS w o) :
 Calls Tryz.prog 67 #[.agg #[.pointer (pa s)], .agg #[.pointer (pa a)], .agg #[.pointer (pa o)]] w fun e w' =>
  ∃ (m : Tr ByteArray) (asked : List ByteArray) (made : Nat), e = .returned (.tuple #[.agg #[.pointer (pa m)], .agg #[.int .i64 (asked.length : Int), .int .i64 (asked.length : Int), .int .i64 (made : Int)]]) ∧
   WlkO (⟨#[]⟩ : ByteArray) (fun k => keepFS (B0 k) (A0 k) (O0 k)) B0 A0 O0 (fun _ => True) s a o m asked ∧ AtS w' m ∧ made ≤ sz m ∧ (pa m = pa s ∨ pa m = pa a ∨ pa m = pa o → made = 0) ∧ Below w.heap.size w w' ∧ TopWS s a o m asked := by
 obtain ⟨z, hz0⟩ : ∃ z, w.heap.size = z := ⟨_, rfl⟩
 obtain ⟨L, hL⟩ : ∃ L : List Obj, [.cells #[.pointer (pa s)] 27, .cells #[.pointer (pa a)] 27, .cells #[.pointer (pa o)] 27, .cells #[.pointer none] 27, .cells #[.int .i64 0, .int .i64 0, .int .i64 0] 126] = L := ⟨_, rfl⟩
 obtain ⟨w1, hw1⟩ : ∃ W, allocs w L = W := ⟨_, rfl⟩
 have hb1 : Below w.heap.size w w1 := by rw [← hw1]; exact allocs_below _ _
 have hx : ∀ i ob, L[i]? = some ob → w1.heap[z + i]? = some ob := fun i ob h => by have := allocs_get _ w i ob h; rw [hw1, hz0] at this; exact this
 have x0 : Boxed w1 z 27 (.pointer (pa s)) := hx 0 _ (by rw [← hL]; rfl)
 have x1 : Boxed w1 (z + 1) 27 (.pointer (pa a)) := hx 1 _ (by rw [← hL]; rfl)
 have x2 : Boxed w1 (z + 1 + 1) 27 (.pointer (pa o)) := hx 2 _ (by rw [← hL]; rfl)
 have x3 : Boxed w1 (z + 1 + 1 + 1) 27 (.pointer none) := hx 3 _ (by rw [← hL]; rfl)
 have x4 : w1.heap[z + 1 + 1 + 1 + 1]? = some (.cells #[.int .i64 0, .int .i64 0, .int .i64 0] 126 (0, 0)) := hx 4 _ (by rw [← hL]; rfl)
 have RUN := Lib.hid (wk_RunS (I := fun _ _ => True) s a o w1 (keep_ruleS B0 A0 O0 w1.heap.size) hz hzs hI (hs.below hb1 rfl) (ha.below hb1 rfl) (ho.below hb1 rfl) trivial)
 have k0 := cell_of_one x0
 have k1 := cell_of_one x1
 have k2 := cell_of_one x2
 have X3 := Lib.hid x3
 have X4 := Lib.hid x4
 have B1 : Hid (Below z w w1) := Lib.hid (by rw [← hz0]; exact hb1)
 have hW : ((((w.alloc (.cells #[.pointer (pa s)] 27)).alloc (.cells #[.pointer (pa a)] 27)).alloc (.cells #[.pointer (pa o)] 27)).alloc (.cells #[.pointer none] 27)).alloc (.cells #[.int .i64 0, .int .i64 0, .int .i64 0] 126) = w1 := by rw [← hw1, ← hL]; rfl
 have hz1 : z + 5 ≤ w1.heap.size := by have := (Array.getElem?_eq_some_iff.1 x4).1; omega
 clear hx hL hw1 x0 x1 x2 x3 x4 hs ha ho hI hb1
 go_enter Tryz.func67, Tryz.ntmps67
 go_wp2_with fail
 try rw [hW]
 refine RUN.out.mono ?_
 rintro e w2 ⟨m, asked, made, rfl, hO, hM, _, hmd, hmz, hk, htw⟩
 have HTW := Lib.hid htw
 clear htw
 have hb : Below w1.heap.size w1 w2 := hk.toBelow fun _ _ _ h => h
 clear hW k0 k1 k2 hk RUN
 go_upto_region 2 with (fail)
 obtain ⟨n, hn⟩ : ∃ n, asked.length = n := ⟨_, rfl⟩
 rw [hn]
 have HN := Lib.hid hn
 obtain ⟨c, hc⟩ : ∃ c, w2.heap.size = c := ⟨_, rfl⟩
 rw [hc]
 obtain ⟨w3, hw3⟩ : ∃ W, allocs w2 [.cells #[.pointer (pa m)] 27, .cells #[.int .i64 (n : Int), .int .i64 (n : Int), .int .i64 (made : Int)] 126] = W := ⟨_, rfl⟩
 have hb3 : Below w2.heap.size w2 w3 := by rw [← hw3]; exact allocs_below _ _
 have y0 : w3.heap[c]? = some (.cells #[.pointer (pa m)] 27 (0, 0)) := by
  have := allocs_get [.cells #[.pointer (pa m)] 27, .cells #[.int .i64 (n : Int), .int .i64 (n : Int), .int .i64 (made : Int)] 126] w2 0 _ rfl
  rw [hw3, hc] at this; exact this
 have y1 : w3.heap[c + 1]? = some (.cells #[.int .i64 (n : Int), .int .i64 (n : Int), .int .i64 (made : Int)] 126 (0, 0)) := by
  have := allocs_get [.cells #[.pointer (pa m)] 27, .cells #[.int .i64 (n : Int), .int .i64 (n : Int), .int .i64 (made : Int)] 126] w2 1 _ rfl
  rw [hw3, hc] at this; exact this
 have hw : (w2.alloc (.cells #[.pointer (pa m)] 27)).alloc (.cells #[.int .i64 (n : Int), .int .i64 (n : Int), .int .i64 (made : Int)] 126) = w3 := hw3
 rw [hw]
 have hzc : z + 5 ≤ c := by have := hb.size; omega
 have hbb := hb.trans (hb3.mono hb.size)
 have X3' : Hid (Boxed w3 (z + 1 + 1 + 1) 27 (.pointer none)) := Lib.hid (boxStays X3.out hbb)
 have X4' := Lib.hid (boxStays X4.out hbb)
 have B3 : Hid (Below z w w3) := Lib.hid (B1.out.trans (hbb.mono (by omega)))
 have M3 := Lib.hid (hM.below hb3 rfl)
 have OO := Lib.hid hO
 have HMD := Lib.hid hmd
 have HMZ := Lib.hid hmz
 have Y0 := Lib.hid y0
 have Y1 := Lib.hid y1
 clear hw hw3 hbb hb hb3 y0 y1 hM hO hmd hmz X3 X4 B1 hn hc
 refine wp_region_noPanic ?_
 refine wp_region_held_drew (S := fun w' => KeepX (endYS z) w3 w') (by kernel_rfl) (KeepX.refl _).drew (fun hS => ?_)
 refine tk (i := 0) (oi := ⟨some 19, _, _, _, _, _⟩) (v := ?_) rfl (Or.inl ⟨by rfl, ?_⟩) hS ?_
 rotate_left 1
 · intro w' hB; have g1 := cell_of_one (hB.row Y0.out (fun h => by rcases h with h | h <;> omega)); have hcc := hB.row Y1.out (fun h => by rcases h with h | h <;> omega); have g2 := cell_of_row _ (c + 1) 0 _ _ _ hcc; have g3 := cell_of_row _ (c + 1) 1 _ _ _ hcc; have g4 := cell_of_row _ (c + 1) 2 _ _ _ hcc; clear hcc; (go_simp <;> with_reducible rfl)
 try simp only [Act.put, zA, zB, zC]
 refine tk (i := 1) (oi := ⟨some 20, _, _, _, _, _⟩) (v := ?_) rfl (Or.inl ⟨by rfl, ?_⟩) hS ?_
 rotate_left 1
 · intro w' hB; have g1 := cell_of_one (hB.row Y0.out (fun h => by rcases h with h | h <;> omega)); have hcc := hB.row Y1.out (fun h => by rcases h with h | h <;> omega); have g2 := cell_of_row _ (c + 1) 0 _ _ _ hcc; have g3 := cell_of_row _ (c + 1) 1 _ _ _ hcc; have g4 := cell_of_row _ (c + 1) 2 _ _ _ hcc; clear hcc; (go_simp <;> with_reducible rfl)
 try simp only [Act.put, zA, zB, zC]
 refine wpAnyH_ready (rs := [2]) (by kernel_rfl) (by simp) (AllReadyH.cons (o := ⟨none, _, _, _, _, _⟩) rfl (fun K hK => ?_) AllReadyH.nil)
 have x4 := X3'.out
 have XZ4 := Lib.hid (heap_setCell_same _ (z + 1 + 1 + 1) 0 _ _ (.pointer (pa m)) x4)
 have k4 := cell_of_one x4
 have f4 := frozen_of_row _ (z + 1 + 1 + 1) 0 _ _ x4
 replace hS := hS.setRow x4 (Or.inl ⟨rfl, rfl⟩) 0 (.pointer (pa m))
 go_simp
 refine hK.out _ _ hS (fun _ => ?_)
 clear hK K k4 f4 x4
 try simp only [Act.put, zA, zB, zC]
 refine wpAnyH_ready (rs := [3]) (by kernel_rfl) (by simp) (AllReadyH.cons (o := ⟨none, _, _, _, _, _⟩) rfl (fun K hK => ?_) AllReadyH.nil)
 have x5 : (w3.setCell ⟨z + 1 + 1 + 1, 0, none⟩ (.pointer (pa m))).heap[z + 1 + 1 + 1 + 1]? = some (.cells #[.int .i64 0, .int .i64 0, .int .i64 0] 126 (0, 0)) := (Below.heap_setCell _ _ _ _ (by simp)).trans X4'.out
 have k5 := cell_of_row _ (z + 1 + 1 + 1 + 1) 0 _ _ _ x5
 have k6 := cell_of_row _ (z + 1 + 1 + 1 + 1) 1 _ _ _ x5
 have k7 := cell_of_row _ (z + 1 + 1 + 1 + 1) 2 _ _ _ x5
 have f5 := frozen_of_row _ (z + 1 + 1 + 1 + 1) 0 _ _ x5
 have f6 := frozen_of_row _ (z + 1 + 1 + 1 + 1) 1 _ _ x5
 have f7 := frozen_of_row _ (z + 1 + 1 + 1 + 1) 2 _ _ x5
 have x6 := heap_setCell_same _ (z + 1 + 1 + 1 + 1) 0 _ _ (.int .i64 (n : Int)) x5
 have x7 := heap_setCell_same _ (z + 1 + 1 + 1 + 1) 1 _ _ (.int .i64 (n : Int)) x6
 replace hS := ((hS.setRow x5 (Or.inr ⟨rfl, rfl⟩) 0 (.int .i64 (n : Int))).setRow x6 (Or.inr ⟨rfl, rfl⟩) 1 (.int .i64 (n : Int))).setRow x7 (Or.inr ⟨rfl, rfl⟩) 2 (.int .i64 (made : Int))
 replace XZ4 := Lib.hid ((Below.heap_setCell _ ⟨z + 1 + 1 + 1 + 1, 2, none⟩ (.int .i64 (made : Int)) _ (by simp)).trans ((Below.heap_setCell _ ⟨z + 1 + 1 + 1 + 1, 1, none⟩ (.int .i64 (n : Int)) _ (by simp)).trans ((Below.heap_setCell _ ⟨z + 1 + 1 + 1 + 1, 0, none⟩ (.int .i64 (n : Int)) _ (by simp)).trans XZ4.out)))
 have X8 := Lib.hid (heap_setCell_same _ (z + 1 + 1 + 1 + 1) 2 _ _ (.int .i64 (made : Int)) x7)
 go_simp
 refine hK.out _ _ hS (fun _ => ?_)
 clear hK K k5 k6 k7 f5 f6 f7 x5 x6 x7
 try simp only [Act.put, zA, zB, zC]
 refine wpAnyH_done (by kernel_rfl) (NoPanic.normal ?_) _
 have HSE := Lib.hid hS
 clear hS
 go_wp2_with fail
 have h4 := XZ4.out
 have h5 := X8.out
 simp only [List.setIfInBounds_toArray, List.set_cons_zero, List.set_cons_succ] at h4 h5
 have c4 := cell_of_one h4
 have c5 := cell_of_row _ (z + 1 + 1 + 1 + 1) 0 _ _ _ h5
 have c6 := cell_of_row _ (z + 1 + 1 + 1 + 1) 1 _ _ _ h5
 have c7 := cell_of_row _ (z + 1 + 1 + 1 + 1) 2 _ _ _ h5
 refine bodyPost_ret (v := .tuple #[.agg #[.pointer (pa m)], .agg #[.int .i64 (n : Int), .int .i64 (n : Int), .int .i64 (made : Int)]]) (by simp [results, Tryz.results67, go_sem, c4, c5, c6, c7]) rfl ?_
 refine ⟨m, asked, made, by rw [HN.out], OO.out, M3.out.keepX HSE.out ?_, HMD.out, HMZ.out, ?_, HTW.out⟩
 · rintro k (h | h) <;> exact absurd h.2 (by decide)
 · have h := ((KeepX.ofBelow (Ex := endYS z) (B3.out.mono (Nat.le_of_eq hz0))).trans HSE.out).toBelow (fun k t hk h => by rw [hz0] at hk; rcases h with h | h <;> omega)
   exact h
end Go.Proofs.YtjlliohjeiclaaaGreatDoor
namespace Go.Proofs.YtjlliohjeiclaaaGreatDoor
open Go.RowKit St Pm Kn
theorem three_lk {z : ByteArray} {s a o m : Tr ByteArray} {asked : List ByteArray}
 (h : WlkO z (fun k => keepG z (lk z (items s) k) (lk z (items a) k) (lk z (items o) k)) (lk z (items s)) (lk z (items a)) (lk z (items o)) (fun _ => True) s a o m asked)
 (hc : ∀ k, (lk z (items a) k).2 = true → (lk z (items o) k).2 = true → (lk z (items a) k).1 = (lk z (items o) k).1) (k : ByteArray) : lk z (items m) k = keepG z (lk z (items s) k) (lk z (items a) k) (lk z (items o) k) := by
 have np := nrm_lk (z := z) (l := items s) (k := k)
 have nq := nrm_lk (z := z) (l := items a) (k := k)
 have nr := nrm_lk (z := z) (l := items o) (k := k)
 have hn : nrm z (keepG z (lk z (items s) k) (lk z (items a) k) (lk z (items o) k)) = keepG z (lk z (items s) k) (lk z (items a) k) (lk z (items o) k) := by
  unfold keepG
  generalize lk z (items s) k = p
  generalize lk z (items a) k = q
  generalize lk z (items o) k = r
  cases hp : p.2 <;> cases hq : q.2 <;> cases hr : r.2 <;> simp [nrm]
 have hca := hc k
 rw [h.all k trivial (fun hh => ?_) (fun hh => ?_)]
 · exact hn
 · rw [hn]
   unfold keepG
   generalize lk z (items s) k = p at *
   generalize lk z (items a) k = q at *
   generalize lk z (items o) k = r at *
   obtain ⟨p1, p2⟩ := p
   obtain ⟨q1, q2⟩ := q
   obtain ⟨r1, r2⟩ := r
   cases p2 <;> cases q2 <;> cases r2 <;> simp_all [nrm]
 · rw [hn]
   unfold keepG
   generalize lk z (items s) k = p at *
   generalize lk z (items a) k = q at *
   generalize lk z (items o) k = r at *
   obtain ⟨p1, p2⟩ := p
   obtain ⟨q1, q2⟩ := q
   obtain ⟨r1, r2⟩ := r
   left
   cases p2 <;> cases q2 <;> cases r2 <;> simp_all [nrm]
theorem tag_val {z : ByteArray} {l : List Ev} {t : Tr ByteArray} (h : Tag l t) {k : ByteArray} (hk : (lk z (items t) k).2 = true) : ∃ e ∈ l, tagK e = k ∧ lk z (items t) k = (e.2, true) := by
 obtain ⟨y, hy, e⟩ := lk_has.1 hk
 have hy' := hy
 rw [h.it] at hy'
 obtain ⟨x, hx, rfl⟩ := List.mem_map.1 hy'
 refine ⟨x, hx, e, ?_⟩
 rw [← e]
 exact lk_mem h.srt (show ((encT x).1, x.2) ∈ items t from hy)
theorem tag_has {z : ByteArray} {l : List Ev} {t : Tr ByteArray} (h : Tag l t) {x : Ev} (hx : okV x = true) : x ∈ l ↔ (lk z (items t) (tagK x)).2 = true := by
 constructor
 · intro hm
   refine lk_has.2 ⟨encT x, ?_, rfl⟩
   rw [h.it]
   exact List.mem_map.2 ⟨x, hm, rfl⟩
 · intro hk
   obtain ⟨e, he, e1, _⟩ := tag_val h hk
   rw [← tag_inj (h.ok e he) hx e1]
   exact he
theorem tag_same {z : ByteArray} {la lo : List Ev} {a o : Tr ByteArray} (ha : Tag la a) (ho : Tag lo o) (k : ByteArray) (h1 : (lk z (items a) k).2 = true) (h2 : (lk z (items o) k).2 = true) : (lk z (items a) k).1 = (lk z (items o) k).1 := by
 obtain ⟨e, he, e1, e2⟩ := tag_val ha h1
 obtain ⟨f, hf, f1, f2⟩ := tag_val ho h2
 rw [e2, f2, tag_inj (ha.ok e he) (ho.ok f hf) (e1.trans f1.symm)]
theorem three_tag {ls la lo : List Ev} {s a o m : Tr ByteArray} {asked : List ByteArray} (hs : Tag ls s) (ha : Tag la a) (ho : Tag lo o)
 (h : WlkO (⟨#[]⟩ : ByteArray) (fun k => keepFS (lk ⟨#[]⟩ (items s) k) (lk ⟨#[]⟩ (items a) k) (lk ⟨#[]⟩ (items o) k)) (lk ⟨#[]⟩ (items s)) (lk ⟨#[]⟩ (items a)) (lk ⟨#[]⟩ (items o)) (fun _ => True) s a o m asked) :
 ∃ lm, Tag lm m ∧ ∀ x, x ∈ lm ↔ (x ∈ la ∧ (x ∈ lo ∨ x ∉ ls)) ∨ (x ∈ lo ∧ x ∉ la ∧ x ∉ ls) := by
 have hl := three_lk h (tag_same ha ho)
 have hg : (items m).all goodT = true := List.all_eq_true.2 fun p hp => by
  obtain ⟨k, v⟩ := p
  have h1 := lk_mem (z := (⟨#[]⟩ : ByteArray)) h.srt hp
  rw [hl k] at h1
  have h2 : (∃ e ∈ la, tagK e = k ∧ e.2 = v) ∨ (∃ e ∈ lo, tagK e = k ∧ e.2 = v) := by
   unfold keepG at h1
   split at h1
   · rename_i h3
     simp only [Bool.and_eq_true] at h3
     obtain ⟨e, he, e1, e2⟩ := tag_val ha h3.1
     rw [e2] at h1
     exact .inl ⟨e, he, e1, (Prod.mk.inj h1).1⟩
   · split at h1
     · rename_i h3
       simp only [Bool.and_eq_true] at h3
       obtain ⟨e, he, e1, e2⟩ := tag_val ha h3.1
       rw [e2] at h1
       exact .inl ⟨e, he, e1, (Prod.mk.inj h1).1⟩
     · split at h1
       · rename_i h3
         simp only [Bool.and_eq_true] at h3
         obtain ⟨e, he, e1, e2⟩ := tag_val ho h3.1.1
         rw [e2] at h1
         exact .inr ⟨e, he, e1, (Prod.mk.inj h1).1⟩
       · cases (Prod.mk.inj h1).2
  rcases h2 with ⟨e, he, rfl, rfl⟩ | ⟨e, he, rfl, rfl⟩
  · exact (goodT_enc (ha.ok e he)).1
  · exact (goodT_enc (ho.ok e he)).1
 have hT := tag_of h.bal h.srt hg
 refine ⟨_, hT, fun x => ?_⟩
 have key : okV x = true → (x ∈ (items m).map decT ↔ (x ∈ la ∧ (x ∈ lo ∨ x ∉ ls)) ∨ (x ∈ lo ∧ x ∉ la ∧ x ∉ ls)) := fun hx => by
  rw [tag_has (z := (⟨#[]⟩ : ByteArray)) hT hx, hl, tag_has (z := (⟨#[]⟩ : ByteArray)) hs hx, tag_has (z := (⟨#[]⟩ : ByteArray)) ha hx, tag_has (z := (⟨#[]⟩ : ByteArray)) ho hx]
  unfold keepG
  generalize lk (⟨#[]⟩ : ByteArray) (items s) (tagK x) = p
  generalize lk (⟨#[]⟩ : ByteArray) (items a) (tagK x) = q
  generalize lk (⟨#[]⟩ : ByteArray) (items o) (tagK x) = r
  cases hp : p.2 <;> cases hq : q.2 <;> cases hr : r.2 <;> simp
 constructor
 · intro hm
   exact (key (hT.ok x hm)).1 hm
 · intro hm
   refine (key ?_).2 hm
   rcases hm with hm | hm
   · exact ha.ok x hm.1
   · exact ho.ok x hm.1
def hasE (l : List Ev) (x : Ev) : Bool := l.any fun y => decide (y = x)
theorem hasE_iff {l : List Ev} {x : Ev} : hasE l x = true ↔ x ∈ l := by
 unfold hasE
 rw [List.any_eq_true]
 constructor
 · rintro ⟨y, hy, e⟩
   rw [← of_decide_eq_true e]
   exact hy
 · intro h
   exact ⟨x, h, by simp⟩
theorem hasE_not {l : List Ev} {x : Ev} : hasE l x = false ↔ x ∉ l := by rw [← hasE_iff]; simp
def thrB (ls la lo : List Ev) : List Ev := la.filter (fun x => hasE lo x || !hasE ls x) ++ lo.filter (fun x => !hasE la x && !hasE ls x)
theorem thrB_mem {ls la lo : List Ev} {x : Ev} : x ∈ thrB ls la lo ↔ (x ∈ la ∧ (x ∈ lo ∨ x ∉ ls)) ∨ (x ∈ lo ∧ x ∉ la ∧ x ∉ ls) := by
 unfold thrB
 rw [List.mem_append, List.mem_filter, List.mem_filter]
 simp only [Bool.or_eq_true, Bool.and_eq_true, Bool.not_eq_true', hasE_iff, hasE_not]
theorem thrB_len (ls la lo : List Ev) : (thrB ls la lo).length ≤ la.length + lo.length := by
 unfold thrB
 rw [List.length_append]
 have h1 := List.length_filter_le (fun x => hasE lo x || !hasE ls x) la
 have h2 := List.length_filter_le (fun x => !hasE la x && !hasE ls x) lo
 omega
theorem thrB_nodup {ls la lo : List Ev} (ha : la.Nodup) (ho : lo.Nodup) : (thrB ls la lo).Nodup := by
 unfold thrB
 refine List.nodup_append.2 ⟨ha.sublist List.filter_sublist, ho.sublist List.filter_sublist, fun x hx y hy e => ?_⟩
 subst e
 have h1 := (List.mem_filter.1 hx).1
 have h2 := (List.mem_filter.1 hy).2
 simp only [Bool.and_eq_true, Bool.not_eq_true', hasE_not] at h2
 exact h2.1 h1
theorem may_nodup {l : List Ev} (h : mayV l = true) : l.Nodup := by
 have h1 := (mayV_iff.1 h).2
 rw [List.nodup_iff_pairwise_ne, List.pairwise_map] at h1
 exact h1.imp fun {a b} hab e => hab (by rw [e])
theorem sortV_same {l m : List Ev} (hl : l.Nodup) (hm : m.Nodup) (h : ∀ x, x ∈ l ↔ x ∈ m) : sortV l = sortV m :=
 sortV_uniq hm (sortV_up hl) fun x => by rw [sortV_mem, h x]
theorem insT_has {x : Ev} (hx : okV x = true) : ∀ {l : List Ev}, (∀ y ∈ l, okV y = true) → ∀ y, y ∈ insT x l ↔ y = x ∨ y ∈ l
 | [], _, y => by simp [insT]
 | z :: l, h, y => by
  have hz := h z List.mem_cons_self
  have ih := insT_has hx (l := l) (fun u hu => h u (List.mem_cons_of_mem _ hu)) y
  unfold insT
  by_cases h1 : ltT x z = true
  · rw [if_pos h1]; simp
  · rw [if_neg h1]
    by_cases h2 : ltT z x = true
    · rw [if_pos h2, List.mem_cons, ih, List.mem_cons]
      constructor
      · rintro (h | h | h) <;> simp [h]
      · rintro (h | h | h) <;> simp [h]
    · rw [if_neg h2]
      have e : z = x := by
       refine tag_inj hz hx ?_
       rw [← ltT_key hx hz] at h1
       rw [← ltT_key hz hx] at h2
       exact klt_tri (by simpa using h2) (by simpa using h1)
      subst e
      simp
theorem setT_mem {l : List Ev} (h : ∀ y ∈ l, okV y = true) (x : Ev) : x ∈ setT l ↔ x ∈ l := by
 have : ∀ (l o : List Ev), (∀ y ∈ l, okV y = true) → (∀ y ∈ o, okV y = true) → (x ∈ l.foldl (fun l x => insT x l) o ↔ x ∈ l ∨ x ∈ o) := by
  intro l
  induction l with
  | nil => intro o _ _; simp
  | cons y l ih =>
   intro o hl ho
   have hy := hl y List.mem_cons_self
   rw [List.foldl_cons, ih _ (fun z hz => hl z (List.mem_cons_of_mem _ hz)) (fun z hz => ((insT_has hy ho z).1 hz).elim (fun e => by rw [e]; exact hy) (ho z)), insT_has hy ho, List.mem_cons]
   constructor
   · rintro (h | h | h) <;> simp [h]
   · rintro ((h | h) | h) <;> simp [h]
 have := this l [] h (fun y hy => by cases hy)
 unfold setT
 simpa using this
theorem tag_setT {l : List Ev} {t : Tr ByteArray} (hm : mayV l = true) (h : Tag (setT l) t) : sortV (setT l) = sortV l :=
 sortV_same h.stb.nd (may_nodup hm) (setT_mem (mayV_iff.1 hm).1)
theorem tag_thrB {ls la lo lm : List Ev} {m : Tr ByteArray} (h1 : mayV ls = true) (h2 : mayV la = true) (h3 : mayV lo = true) (hT : Tag lm m)
 (h : ∀ x, x ∈ lm ↔ (x ∈ setT la ∧ (x ∈ setT lo ∨ x ∉ setT ls)) ∨ (x ∈ setT lo ∧ x ∉ setT la ∧ x ∉ setT ls)) : sortV lm = sortV (thrB ls la lo) :=
 sortV_same hT.stb.nd (thrB_nodup (may_nodup h2) (may_nodup h3)) fun x => by
  rw [h x, thrB_mem, setT_mem (mayV_iff.1 h1).1, setT_mem (mayV_iff.1 h2).1, setT_mem (mayV_iff.1 h3).1]
theorem thrB_swap {ls la lo : List Ev} (h2 : mayV la = true) (h3 : mayV lo = true) : sortV (thrB ls lo la) = sortV (thrB ls la lo) :=
 sortV_same (thrB_nodup (may_nodup h3) (may_nodup h2)) (thrB_nodup (may_nodup h2) (may_nodup h3)) fun x => by
  rw [thrB_mem, thrB_mem]
  by_cases h1 : x ∈ la <;> by_cases h4 : x ∈ lo <;> by_cases h5 : x ∈ ls <;> simp [h1, h4, h5]
theorem thrB_self {ls la : List Ev} (h1 : mayV ls = true) (h2 : mayV la = true) : sortV (thrB ls la ls) = sortV la :=
 sortV_same (thrB_nodup (may_nodup h2) (may_nodup h1)) (may_nodup h2) fun x => by
  rw [thrB_mem]
  by_cases h3 : x ∈ la <;> by_cases h5 : x ∈ ls <;> simp [h3, h5]
end Go.Proofs.YtjlliohjeiclaaaGreatDoor
