/- Words, contracts and walks that the proof stands on (Tail PmPS PmSS WkAS WkBS KeepX WkXS). -/
import Derived.Deep.RegionHeld3
import Derived.MapKept
import Derived.Maps.Own
import Derived.RangeFuncKeeps
import Derived.RangeFuncWrites
import Derived.Test.YtnpiepimajippaaRK1
import Derived.Test.YtnpiepimajippaaRK10
import Derived.Test.YtnpiepimajippaaRK3
import Derived.Test.YtnpiepimajippaaRK4
import Derived.Test.YtnpiepimajippaaRK8
namespace Go.Proofs.Ytnpiepimajippaa
open Go.RowKit
section
variable {P : Program} {md : Region.Mode} {ops : Array Oper} {Q : Exit → Act → World → Prop} {S : World → Prop} {T : List Nat}
def doneB (ops : Array Oper) (T : List Nat) (listed : Array Bool) : Bool := (List.range ops.size).all fun k => T.contains k || listed.getD k false
def anyT (P : Program) (md : Region.Mode) (ops : Array Oper) (Q : Exit → Act → World → Prop) (T : List Nat) (S : World → Prop) : Nat → Array Bool → Act → World → Prop
 | 0, listed, a, w => wpAny P md ops Q 0 listed a w
 | fuel + 1, listed, a, w => if doneB ops T listed = true then wpAny P md ops Q (fuel + 1) listed a w
   else (Region.ready md ops listed = [] → Q .normal a w) ∧ ∀ i ∈ Region.ready md ops listed, wpOp P ops Q i (fun a' w' => S w' ∧ anyT P md ops Q T S fuel (listed.setIfInBounds i true) a' w') a w
def AllReadyT (P : Program) (md : Region.Mode) (ops : Array Oper) (Q : Exit → Act → World → Prop) (T : List Nat) (S : World → Prop) (fuel : Nat) (listed : Array Bool) (a : Act) (w : World) (rs : List Nat) : Prop :=
 ∀ i ∈ rs, wpOp P ops Q i (fun a' w' => S w' ∧ anyT P md ops Q T S fuel (listed.setIfInBounds i true) a' w') a w
theorem AllReadyT.nil {fuel : Nat} {listed : Array Bool} {a : Act} {w : World} : AllReadyT P md ops Q T S fuel listed a w [] := fun _ h => by cases h
theorem AllReadyT.cons {fuel : Nat} {listed : Array Bool} {a : Act} {w : World} {i : Nat} {o : Oper} {rs : List Nat} (ho : ops[i]? = some o) (hw : Region.wanted o (yielded ops a.tmps) = true)
   (h : ∀ K' : Act → World → Prop, Shut (∀ a w, S w → (S w → anyT P md ops Q T S fuel (listed.setIfInBounds i true) a w) → K' a w) → Oper.wp P o a w K' Q)
   (hs : AllReadyT P md ops Q T S fuel listed a w rs) : AllReadyT P md ops Q T S fuel listed a w (i :: rs) := fun j hj => by
 rcases List.mem_cons.1 hj with rfl | hj
 · unfold wpOp
   simp only [ho]
   rw [if_pos hw]
   exact .inl (h _ (fun a w hS hW => ⟨hS, hW hS⟩))
 · exact hs j hj
end
end Go.Proofs.Ytnpiepimajippaa
namespace Go.Proofs.Ytnpiepimajippaa
open Go.RowKit Pm
def NodeMapS (W : World) (B : Nat) (ps : List Nat) : Prop :=
 ∃ (es : Array MapEntry) (clock : Nat), W.heap[B]? = some (.map es clock) ∧ es.toList.map (fun e => (e.key, e.val)) = ps.map fun b => (Value.pointer (some ⟨b, 0, none⟩), Value.bool true)
def NdsS (W : World) (ps : List Nat) : Prop := ∀ b ∈ ps, ∃ cs, W.heap[b]? = some (.cells cs 110 (0, 0))
theorem AtS.nds {w : World} {t : Tr ByteArray} (h : AtS w t) : NdsS w (blocks t) := by
 induction t with
 | nil => intro b hb; simp [blocks] at hb
 | node b l k v r ih1 ih2 =>
   obtain ⟨h1, h2, h3⟩ := h
   intro b' hb
   simp only [blocks, List.mem_append, List.mem_cons] at hb
   rcases hb with hb | rfl | hb
   · exact ih1 h2 b' hb
   · exact ⟨_, h1⟩
   · exact ih2 h3 b' hb
theorem ptr_equalS (w : World) (b b' : Nat) (h : NdsS w [b, b']) : (Op.equal 25 (.pointer (some ⟨b, 0, none⟩)) (.pointer (some ⟨b', 0, none⟩))).run Try.prog w = .ok (decide (b = b')) w := by
 have hp := Try.underlying25
 obtain ⟨j, hj, hs⟩ : ∃ j, Try.prog.info? 110 = some j ∧ j.size = 6 := by
   have h := infoNodeS
   cases hi : Try.prog.info? 110 with
   | none => rw [hi] at h; cases h
   | some j => rw [hi] at h; exact ⟨j, rfl, by simpa using h⟩
 obtain ⟨c1, h1⟩ := h b (by simp)
 obtain ⟨c2, h2⟩ := h b' (by simp)
 by_cases e : b = b'
 · subst e
   have h : ∀ d : Nat, (Op.equalIn (d + 1) 25 (.pointer (some ⟨b, 0, none⟩)) (.pointer (some ⟨b, 0, none⟩))).run Try.prog w = .ok true w := fun d => by
     simp [Op.equalIn, run_underlying hp, sizeOf, typeInfo, hj, run_sameAddr_same]
   simp [Op.equal, Op.maxDepth, h 9999]
 · have h : ∀ d : Nat, (Op.equalIn (d + 1) 25 (.pointer (some ⟨b, 0, none⟩)) (.pointer (some ⟨b', 0, none⟩))).run Try.prog w = .ok false w := fun d => by
     simp [Op.equalIn, run_underlying hp, sizeOf, typeInfo, hj, hs, run_sameAddr_other w (a := ⟨b, 0, none⟩) (b := ⟨b', 0, none⟩) (by simp [e]) h1 h2]
   simp [Op.equal, Op.maxDepth, h 9999, e]
theorem findAskingS (w : World) (b : Nat) : ∀ (es : List MapEntry) (ps : List Nat) (i : Nat), es.map (fun e => (e.key, e.val)) = ps.map (fun b => (Value.pointer (some ⟨b, 0, none⟩), Value.bool true)) → NdsS w (b :: ps) →
   (b ∉ ps ∧ (Instr.findAsking 25 (.pointer (some ⟨b, 0, none⟩)) es i).run Try.prog w = .ok none w) ∨ (b ∈ ps ∧ ∃ j, (Instr.findAsking 25 (.pointer (some ⟨b, 0, none⟩)) es i).run Try.prog w = .ok (some (j, .bool true)) w)
 | [], ps, i, h, _ => by
   have : ps = [] := by simpa using h.symm
   subst this
   exact .inl ⟨by simp, by simp [Instr.findAsking]⟩
 | e :: es, [], i, h, _ => by simp at h
 | e :: es, p :: ps, i, h, hn => by
   simp only [List.map_cons, List.cons.injEq, Prod.mk.injEq] at h
   obtain ⟨⟨hk, hv⟩, hr⟩ := h
   have he := ptr_equalS w b p (fun x hx => hn x (by simp at hx ⊢; rcases hx with h | h <;> simp [h]))
   by_cases e1 : b = p
   · subst e1
     refine .inr ⟨by simp, i, ?_⟩
     simp only [decide_true] at he
     simp [Instr.findAsking, hk, hv, he]
   · have hd : decide (b = p) = false := by simpa using e1
     rw [hd] at he
     rcases findAskingS w b es ps (i + 1) hr (fun x hx => hn x (by simp at hx ⊢; rcases hx with h | h <;> simp [h])) with ⟨h1, h2⟩ | ⟨h1, j, h2⟩
     · exact .inl ⟨by simp [e1, h1], by simp [Instr.findAsking, hk, he, h2]⟩
     · exact .inr ⟨by simp [h1], j, by simp [Instr.findAsking, hk, he, h2]⟩
theorem findKeyS (w : World) (b : Nat) (es : List MapEntry) (ps : List Nat) (h : es.map (fun e => (e.key, e.val)) = ps.map (fun b => (Value.pointer (some ⟨b, 0, none⟩), Value.bool true))) (hn : NdsS w (b :: ps)) :
   (b ∉ ps ∧ (Instr.findKey 25 (.pointer (some ⟨b, 0, none⟩)) es).run Try.prog w = .ok none w) ∨ (b ∈ ps ∧ ∃ j, (Instr.findKey 25 (.pointer (some ⟨b, 0, none⟩)) es).run Try.prog w = .ok (some (j, .bool true)) w) := by
 have hp := Try.underlying25
 cases es with
 | nil =>
   have : ps = [] := by simpa using h.symm
   subst this
   exact .inl ⟨by simp, by simp [Instr.findKey, run_underlying hp, Instr.findNow]⟩
 | cons e es =>
   have hs : ∀ v, Instr.sameNow (.pointer 110) (.pointer (some ⟨b, 0, none⟩)) v = none := fun v => by simp [Instr.sameNow]
   have hf : Instr.findNow (.pointer 110) (.pointer (some ⟨b, 0, none⟩)) (e :: es) 0 = none := by simp [Instr.findNow, hs]
   have := findAskingS w b (e :: es) ps 0 h hn
   simpa [Instr.findKey, run_underlying hp, hf] using this
theorem checkKeySS (w : World) (em : Bool) (n b : Nat) : (Instr.checkKey em (n + 1) 25 (.pointer (some ⟨b, 0, none⟩))).run Try.prog w = .ok () w := by
 have hp := Try.underlying25
 simp [Instr.checkKey, run_underlying hp]
theorem checkKeyNS (w : World) (em : Bool) (b : Nat) : (Instr.checkKey em 10000 25 (.pointer (some ⟨b, 0, none⟩))).run Try.prog w = .ok () w := checkKeySS w em 9999 b
theorem nodeMap_lookS {w : World} {B : Nat} {ps : List Nat} (h : NodeMapS w B ps) (b : Nat) (hn : NdsS w (b :: ps)) :
   (Instr.lookup 151 (.map (some B)) (.pointer (some ⟨b, 0, none⟩)) false).run Try.prog w = .ok (.bool (decide (b ∈ ps))) w := by
 obtain ⟨es, clock, hB, he⟩ := h
 have hm := Try.underlying151
 have hz : (zeroValue 4).run Try.prog w = .ok (.bool false) w := by kernel_rfl
 have hc := checkKeyNS w es.isEmpty b
 rcases findKeyS w b es.toList ps he hn with ⟨h1, h2⟩ | ⟨h1, j, h2⟩
 · unfold Instr.lookup
   simp [run_underlying hm, Go.MapKept.run_getObj_map hB, hc, h2, hz, h1]
 · unfold Instr.lookup
   simp [run_underlying hm, Go.MapKept.run_getObj_map hB, hc, h2, h1]
theorem nodeMap_putS {w : World} {B : Nat} {ps : List Nat} (h : NodeMapS w B ps) (b : Nat) (hn : NdsS w (b :: ps)) (hb : b ∉ ps) :
   ∃ o, (Instr.mapUpdate 151 (.map (some B)) (.pointer (some ⟨b, 0, none⟩)) (.bool true)).run Try.prog w = .ok () (w.putObj B o) ∧ NodeMapS (w.putObj B o) B (ps ++ [b]) := by
 obtain ⟨es, clock, hB, he⟩ := h
 have hm := Try.underlying151
 have hc := checkKeyNS w false b
 rcases findKeyS w b es.toList ps he hn with ⟨h1, h2⟩ | ⟨h1, j, h2⟩
 · refine ⟨.map (es.push { key := .pointer (some ⟨b, 0, none⟩), val := .bool true, born := clock }) (clock + 1), ?_, ?_⟩
   · unfold Instr.mapUpdate
     simp [run_underlying hm, Go.MapKept.run_getObj_map hB, Go.MapKept.run_setObj_map _ hB, hc, h2]
     rfl
   · exact ⟨_, _, World.putObj_heap_same (Array.getElem?_eq_some_iff.1 hB).1, by simp [he]⟩
 · exact absurd h1 hb
end Go.Proofs.Ytnpiepimajippaa
namespace Go.Proofs.Ytnpiepimajippaa
open Go.RowKit Pm
attribute [local go_sem] Oper.semAt_some
def Pm.blkOfS : Tr ByteArray → Nat
 | .nil => 0
 | .node b _ _ _ _ => b
theorem nodesL_nodeS : ∀ (t : Tr ByteArray) (x : Tr ByteArray), x ∈ nodesLS t → ∃ b l k v r, x = .node b l k v r ∧ b ∈ blocks t
 | .nil, x, h => by simp [nodesLS] at h
 | .node b l k v r, x, h => by
   simp only [nodesLS, List.mem_append, List.mem_singleton] at h
   rcases h with (h | h) | h
   · obtain ⟨b', l', k', v', r', e, hb⟩ := nodesL_nodeS l x h
     exact ⟨b', l', k', v', r', e, by simp [blocks, hb]⟩
   · obtain ⟨b', l', k', v', r', e, hb⟩ := nodesL_nodeS r x h
     exact ⟨b', l', k', v', r', e, by simp [blocks, hb]⟩
   · exact ⟨b, l, k, v, r, h, by simp [blocks]⟩
theorem nodesL_permS : ∀ (t : Tr ByteArray), ((nodesLS t).map blkOfS).Perm (blocks t)
 | .nil => .nil
 | .node b l k v r => by
   simp only [nodesLS, blocks, List.map_append, List.map_cons, List.map_nil]
   have h1 := nodesL_permS l
   have h2 := nodesL_permS r
   have h3 : ((nodesLS r).map blkOfS ++ [b]).Perm (b :: blocks r) := (List.perm_append_comm (l₁ := (nodesLS r).map blkOfS) (l₂ := [b])).trans (h2.cons b)
   rw [List.append_assoc]
   exact h1.append h3
end Go.Proofs.Ytnpiepimajippaa
namespace Go.Proofs.Ytnpiepimajippaa
open Go.RowKit Pm
def prtVS (p : ByteArray × Bool) : Value := .agg #[.string p.1, .bool p.2]
def keepFS (p q r : ByteArray × Bool) : ByteArray × Bool := if q.2 && r.2 then (q.1, true) else if q.2 && !p.2 then (q.1, true) else if r.2 && !q.2 && !p.2 then (r.1, true) else ((⟨#[]⟩ : ByteArray), false)
def prtTS (t : Tr ByteArray) (k : ByteArray) : ByteArray × Bool := (valOr (seek k t), isNS (seek k t))
theorem prtT_lkS {t : Tr ByteArray} {k : ByteArray} (hs : Srt (items t)) : prtTS t k = lk (⟨#[]⟩ : ByteArray) (items t) k := by
 unfold prtTS
 cases e : seek k t with
 | nil => rw [lk_none (seek_none hs e)]; rfl
 | node b l k0 v0 r =>
   obtain ⟨rfl, h⟩ := seek_some e
   rw [lk_mem hs h]; rfl
set_option maxRecDepth 100000 in
set_option maxHeartbeats 2000000 in
theorem wk_KeepS (key : ByteArray) (p q r : ByteArray × Bool) (w : World) :
   Calls Try.prog 127 #[.string key, prtVS p, prtVS q, prtVS r] w fun e w' => e = .returned (.tuple #[.string (keepFS p q r).1, .bool (keepFS p q r).2]) ∧ Below w.heap.size w w' := by
 obtain ⟨p1, p2⟩ := p
 obtain ⟨q1, q2⟩ := q
 obtain ⟨r1, r2⟩ := r
 unfold prtVS
 have hb : Below w.heap.size w (((w.alloc (.cells #[.string p1, .bool p2] 148)).alloc (.cells #[.string q1, .bool q2] 148)).alloc (.cells #[.string r1, .bool r2] 148)) := (((Below.refl _ w).alloc (Nat.le_refl _) _).alloc (by simp) _).alloc (by simp; omega) _
 have HB := Lib.hid hb
 clear hb
 cases p2 <;> cases q2 <;> cases r2
 all_goals
   go_enter Try.func127, Try.ntmps127
   go_wp2_with fail
   go_ret2
   exact ⟨by simp [keepFS], HB.out⟩
end Go.Proofs.Ytnpiepimajippaa
namespace Go.Proofs.Ytnpiepimajippaa
open Go.RowKit Pm
theorem join_ok_ofS {a r : Tr ByteArray} {k : ByteArray} {v : ByteArray} (h : Srt (items a ++ (k, v) :: items r)) : joinOKS a k r := by
 obtain ⟨_, h2, h3⟩ := srt_append.1 h
 obtain ⟨h4, _⟩ := srt_cons.1 h2
 refine ⟨fun hn => ?_, fun hn => ?_⟩
 · by_cases ha : a = .nil
   · subst ha; cases hn
   · obtain ⟨b, l, k1, v1, r1, e, g⟩ := endR_items a ha
     rw [e]
     exact h3 (k1, v1) (List.mem_of_getElem? g) _ List.mem_cons_self
 · by_cases hr : r = .nil
   · subst hr; cases hn
   · obtain ⟨b, l, k1, v1, r1, e, g⟩ := endL_items r hr
     rw [e]
     exact h4 (k1, v1) (List.mem_of_getElem? g)
theorem del_firstS {k : ByteArray} {v : ByteArray} {l : List (ByteArray × ByteArray)} (h : Srt ((k, v) :: l)) : del k ((k, v) :: l) = l := by
 rw [del_here]
 exact del_none fun x hx e => by
   have := (srt_cons.1 h).1 x hx
   rw [e, klt_irrefl] at this
   cases this
theorem made_at8S {w1 w2 : World} {o : Obj} (hw : w2 = w1.alloc o) : ∃ c, w1.heap.size = c ∧ w2.heap[c]? = some o := ⟨_, rfl, by rw [hw]; exact heap_alloc_new w1 o⟩
set_option maxRecDepth 100000 in
set_option maxHeartbeats 4000000 in
theorem wk_putS (a b : Tr ByteArray) (N : Nat) (w : World) (hN : N ≤ w.heap.size) (ha : AtS w a) (hb : AtS w b) (ba : Bal a) (bb : Bal b) (hs : Srt (items a ++ items b)) (hz : sz a + sz b ≤ 1073741824) :
   Calls Try.prog 148 #[.agg #[.pointer (pa a)], .agg #[.pointer (pa b)]] w fun e w' => ∃ m : Tr ByteArray, e = .returned (.agg #[.pointer (pa m)]) ∧ items m = items a ++ items b ∧ Bal m ∧ AtS w' m ∧ Below w.heap.size w w' := by
 obtain ⟨w1, hw1⟩ : ∃ w1, ((w.alloc (.cells #[.pointer (pa a)] 27)).alloc (.cells #[.pointer (pa b)] 27)).alloc (.cells #[.pointer none] 27) = w1 := ⟨_, rfl⟩
 have hb1 : Below w.heap.size w w1 := by rw [← hw1]; exact (((Below.refl _ w).alloc (Nat.le_refl _) _).alloc (by simp) _).alloc (by simp; omega) _
 have x0 : w1.heap[w.heap.size]? = some (.cells #[.pointer (pa a)] 27 (0, 0)) := by rw [← hw1]; exact boxStays (boxStays (heap_alloc_new w _) (below_new _ _)) (below_new _ _)
 have x1 : w1.heap[w.heap.size + 1]? = some (.cells #[.pointer (pa b)] 27 (0, 0)) := by
   rw [← hw1]
   have := heap_alloc_new (w.alloc (.cells #[.pointer (pa a)] 27)) (.cells #[.pointer (pa b)] 27)
   exact boxStays (by simpa using this) (below_new _ _)
 have x2 : w1.heap[w.heap.size + 1 + 1]? = some (.cells #[.pointer none] 27 (0, 0)) := by
   rw [← hw1]
   have := heap_alloc_new ((w.alloc (.cells #[.pointer (pa a)] 27)).alloc (.cells #[.pointer (pa b)] 27)) (.cells #[.pointer none] 27)
   simpa using this
 have X0 := Lib.hid x0
 have X1 := Lib.hid x1
 have X2 := Lib.hid x2
 have HA := Lib.hid (ha.below hb1 rfl)
 have HBt := Lib.hid (hb.below hb1 rfl)
 have HB := Lib.hid hb1
 have HW := Lib.hid hw1
 have BA := Lib.hid ba
 have BB := Lib.hid bb
 have HS := Lib.hid hs
 clear ha hb hb1 hw1 x0 x1 x2 ba bb hs
 have k1 := cell_of_one X1.out
 go_enter Try.func148, Try.ntmps148
 go_wp2_with fail
 rw [HW.out]
 refine (pm_MFirstS b w1 HBt.out).mono ?_
 rintro e w2 ⟨rfl, hb⟩
 have D2 := Lib.hid (HB.out.trans (hb.mono HB.out.size))
 have A2 := Lib.hid (HA.out.below hb rfl)
 have B2 := Lib.hid (HBt.out.below hb rfl)
 have Y0 := Lib.hid (boxStays X0.out hb)
 have Y1 := Lib.hid (boxStays X1.out hb)
 have Y2 := Lib.hid (boxStays X2.out hb)
 clear hb k1 X0 X1 X2 HA HBt HB HW
 by_cases hbn : b = .nil
 · subst hbn
   have hn : isNS (endL (.nil : Tr ByteArray)) = false := rfl
   rw [hn]
   clear hn
   have k0 := cell_of_one Y0.out
   have k2 := cell_of_one Y2.out
   have f2 := frozen_of_row _ (w.heap.size + 1 + 1) 0 _ _ Y2.out
   go_wp2_with fail
   have k3 := cell_of_one (heap_setCell_same w2 (w.heap.size + 1 + 1) 0 _ _ (.pointer (pa a)) Y2.out)
   refine bodyPost_ret (v := .agg #[.pointer (pa a)]) (by simp [results, Try.results148, go_sem, k3]) rfl ?_
   exact ⟨a, rfl, by simp [items], BA.out, A2.out.setBox Y2.out (by decide) 0 _, D2.out.setCell (p := ⟨w.heap.size + 1 + 1, 0, none⟩) (by simp; omega) _⟩
 · obtain ⟨bb', lb, k, v, rb, eb, gb⟩ := endL_items b hbn
   have hrest : ∃ rest, items b = (k, v) :: rest := by
     cases hib : items b with
     | nil => rw [hib] at gb; simp at gb
     | cons y rest => rw [hib] at gb; simp at gb; subst gb; exact ⟨rest, rfl⟩
   obtain ⟨rest, hrest⟩ := hrest
   have HR := Lib.hid hrest
   have HBN := Lib.hid hbn
   have e1 : keyOr (endL b) = k := by rw [eb]; rfl
   have e2 : valOr (endL b) = v := by rw [eb]; rfl
   have e3 : isNS (endL b) = true := by rw [eb]; rfl
   rw [e1, e2, e3]
   clear e1 e2 e3 eb gb hrest hbn
   go_wp2_with fail
   obtain ⟨s6, hs6⟩ : ∃ s, w2.heap.size = s := ⟨_, rfl⟩
   have HZB : Hid (s6 ≤ w2.heap.size) := Lib.hid (Nat.le_of_eq hs6.symm)
   have HS6 := Lib.hid hs6
   clear hs6
   have CT : Hid (∀ W : World, Below s6 w2 W → Calls Try.prog 109 #[.agg #[.pointer (pa b)], .string k] W fun e w' => ∃ t', e = .returned (.agg #[.pointer (pa t')]) ∧ (items t' = rest ∧ Bal t' ∧ sz t' ≤ sz b) ∧ AtS w' t' ∧ Below W.heap.size W w') := Lib.hid (fun W h => by
     have h' := h.mono (Nat.le_of_eq HS6.out)
     refine (pm_MTakeS b k N W (Nat.le_trans (Nat.le_trans hN D2.out.size) h'.size) (B2.out.below h' rfl) (by omega)).mono ?_
     rintro e w' ⟨t', hP, rfl, hA, hB⟩
     have hsb : Srt (items b) := (srt_append.1 HS.out).2.1
     have hsk : seek k b ≠ .nil := fun e => seek_none hsb e (k, v) (by rw [HR.out]; exact List.mem_cons_self) rfl
     rcases hP with ⟨h1, _⟩ | ⟨_, h1⟩
     · exact absurd h1 hsk
     · have hi := h1.items hsb
       rw [HR.out] at hi hsb
       rw [del_firstS hsb] at hi
       refine ⟨t', rfl, ⟨hi, (h1.bal BB.out).1, ?_⟩, hA, hB⟩
       rw [← sz_items, ← sz_items b, hi, HR.out]
       simp)
   refine wp_region_noPanic ?_
   refine wp_region_held_drew (S := fun w' => Below s6 w2 w') (by kernel_rfl) (Below.refl _ _).drew (fun hS => ?_)
   refine wpAnyH_take (i := 0) (oi := ⟨some 20, _, _, _, _, _⟩) (v := ?_) rfl (by kernel_rfl) (by kernel_rfl) (by kernel_rfl) (fun _ _ _ h => h) (Or.inl ⟨by rfl, ?_⟩) hS ?_
   rotate_left 1
   · intro w' hB; have hr := hB.mono (Nat.le_of_eq HS6.out); have k0 := cell_of_one (boxStays Y0.out hr); have k1 := cell_of_one (boxStays Y1.out hr); clear hr; (go_simp <;> with_reducible rfl)
   try simp only [Act.put, List.setIfInBounds_toArray, List.set_cons_zero, List.set_cons_succ]
   refine wpAnyH_take (i := 1) (oi := ⟨some 21, _, _, _, _, _⟩) (v := ?_) rfl (by kernel_rfl) (by kernel_rfl) (by kernel_rfl) (fun _ _ _ h => h) (Or.inl ⟨by rfl, ?_⟩) hS ?_
   rotate_left 1
   · intro w' hB; have hr := hB.mono (Nat.le_of_eq HS6.out); have k0 := cell_of_one (boxStays Y0.out hr); have k1 := cell_of_one (boxStays Y1.out hr); clear hr; (go_simp <;> with_reducible rfl)
   try simp only [Act.put, List.setIfInBounds_toArray, List.set_cons_zero, List.set_cons_succ]
   refine wpAnyH_take (i := 2) (oi := ⟨some 22, _, _, _, _, _⟩) (v := ?_) rfl (by kernel_rfl) (by kernel_rfl) (by kernel_rfl) (fun _ _ _ h => h) (Or.inl ⟨by rfl, ?_⟩) hS ?_
   rotate_left 1
   · intro w' hB; have hr := hB.mono (Nat.le_of_eq HS6.out); have k0 := cell_of_one (boxStays Y0.out hr); have k1 := cell_of_one (boxStays Y1.out hr); clear hr; (go_simp <;> with_reducible rfl)
   try simp only [Act.put, List.setIfInBounds_toArray, List.set_cons_zero, List.set_cons_succ]
   refine wpAnyH_take (i := 3) (oi := ⟨some 23, _, _, _, _, _⟩) (v := ?_) rfl (by kernel_rfl) (by kernel_rfl) (by kernel_rfl) (fun _ _ _ h => h) (Or.inl ⟨by rfl, ?_⟩) hS ?_
   rotate_left 1
   · intro w' hB; have hr := hB.mono (Nat.le_of_eq HS6.out); have k0 := cell_of_one (boxStays Y0.out hr); have k1 := cell_of_one (boxStays Y1.out hr); clear hr; (go_simp <;> with_reducible rfl)
   try simp only [Act.put, List.setIfInBounds_toArray, List.set_cons_zero, List.set_cons_succ]
   refine wpAnyH_take (i := 4) (oi := ⟨some 24, _, _, _, _, _⟩) (v := ?_) rfl (by kernel_rfl) (by kernel_rfl) (by kernel_rfl) (fun _ _ _ h => h) (Or.inl ⟨by rfl, ?_⟩) hS ?_
   rotate_left 1
   · intro w' hB; have hr := hB.mono (Nat.le_of_eq HS6.out); have k0 := cell_of_one (boxStays Y0.out hr); have k1 := cell_of_one (boxStays Y1.out hr); clear hr; (go_simp <;> with_reducible rfl)
   try simp only [Act.put, List.setIfInBounds_toArray, List.set_cons_zero, List.set_cons_succ]
   refine wpAnyH_ready (rs := [5, 10]) (by kernel_rfl) (by simp) (AllReadyH.cons (o := ⟨some 25, _, _, _, _, _⟩) rfl (fun K hK => ?way2) (AllReadyH.cons (o := ⟨some 8, _, _, _, _, _⟩) rfl (fun K hK => ?way1) AllReadyH.nil))
   case' way2 =>
     go_simp
     refine (CT.out _ hS).mono ?_
     rintro e w7 ⟨t', rfl, hP, hA, hb⟩
     refine hK.out _ _ (hS.trans (hb.mono (Nat.le_trans HZB.out hS.size))) (fun _ => ?_)
     clear hK K
     replace hS := hS.trans (hb.mono (Nat.le_trans HZB.out hS.size))
     have P1 := Lib.hid hP
     have A7 := Lib.hid hA
     clear hP hA
     (try replace XY := Lib.hid (boxStays XY.out hb))
     clear hb
     try simp only [Act.put, List.setIfInBounds_toArray, List.set_cons_zero, List.set_cons_succ]
     refine wpAnyH_ready (rs := [6, 10]) (by kernel_rfl) (by simp) (AllReadyH.cons (o := ⟨some 26, _, _, _, _, _⟩) rfl (fun K hK => ?way4) (AllReadyH.cons (o := ⟨some 8, _, _, _, _, _⟩) rfl (fun K hK => ?way3) AllReadyH.nil))
     case' way4 =>
       go_simp
       refine (pm_JoinS a t' k v N _ (Nat.le_trans (Nat.le_trans hN D2.out.size) (hS.mono (Nat.le_of_eq HS6.out)).size) (A2.out.below (hS.mono (Nat.le_of_eq HS6.out)) rfl) A7.out (by have := P1.out.2.2; omega)).mono ?_
       rintro e w8 ⟨m, nn, hJ, rfl, hA, hb⟩
       refine hK.out _ _ (hS.trans (hb.mono (Nat.le_trans HZB.out hS.size))) (fun _ => ?_)
       clear hK K
       replace hS := hS.trans (hb.mono (Nat.le_trans HZB.out hS.size))
       have P2 := Lib.hid hJ
       have A8 := Lib.hid hA
       clear hJ hA
       (try replace XY := Lib.hid (boxStays XY.out hb))
       clear hb
       try simp only [Act.put, List.setIfInBounds_toArray, List.set_cons_zero, List.set_cons_succ]
       refine wpAnyH_take (i := 7) (oi := ⟨some 19, _, _, _, _, _⟩) (v := ?_) rfl (by kernel_rfl) (by kernel_rfl) (by kernel_rfl) (fun _ _ _ h => h) (Or.inl ⟨by rfl, ?_⟩) hS ?_
       rotate_left 1
       · intro w' hB; have hr := hB.mono (Nat.le_of_eq HS6.out); have k0 := cell_of_one (boxStays Y0.out hr); have k1 := cell_of_one (boxStays Y1.out hr); clear hr; (go_simp <;> with_reducible rfl)
       try simp only [Act.put, List.setIfInBounds_toArray, List.set_cons_zero, List.set_cons_succ]
       refine wpAnyH_take (i := 8) (oi := ⟨some 27, _, _, _, _, _⟩) (v := ?_) rfl (by kernel_rfl) (by kernel_rfl) (by kernel_rfl) (fun _ _ _ h => h) (Or.inl ⟨by rfl, ?_⟩) hS ?_
       rotate_left 1
       · intro w' hB; have hr := hB.mono (Nat.le_of_eq HS6.out); have k0 := cell_of_one (boxStays Y0.out hr); have k1 := cell_of_one (boxStays Y1.out hr); clear hr; (go_simp <;> with_reducible rfl)
       try simp only [Act.put, List.setIfInBounds_toArray, List.set_cons_zero, List.set_cons_succ]
       refine wpAnyH_take (i := 9) (oi := ⟨some 28, _, _, _, _, _⟩) (v := ?_) rfl (by kernel_rfl) (by kernel_rfl) (by kernel_rfl) (fun _ _ _ h => h) (Or.inl ⟨by rfl, ?_⟩) hS ?_
       rotate_left 1
       · intro w' hB; have hr := hB.mono (Nat.le_of_eq HS6.out); have k0 := cell_of_one (boxStays Y0.out hr); have k1 := cell_of_one (boxStays Y1.out hr); clear hr; (go_simp <;> with_reducible rfl)
       try simp only [Act.put, List.setIfInBounds_toArray, List.set_cons_zero, List.set_cons_succ]
       refine wpAnyH_ready (rs := [10]) (by kernel_rfl) (by simp) (AllReadyH.cons (o := ⟨some 8, _, _, _, _, _⟩) rfl (fun K hK => ?_) AllReadyH.nil)
       go_simp
       refine hK.out _ _ (hS.alloc (Nat.le_trans HZB.out hS.size) _) (fun _ => ?_)
       clear hK K
       refine wpAnyH_madeK hS (Nat.le_trans HZB.out hS.size) ?_
       have hS0 := hS
       clear hS
       rintro w9 hw hS
       obtain ⟨c8, hc8, hx8⟩ := made_at8S hw
       have G8 : Hid (s6 ≤ c8) := Lib.hid (by have h2 := hS0.size; have h3 := HZB.out; rw [hc8] at h2; omega)
       (try simp at hc8)
       rw [hc8]
       have XY := Lib.hid hx8
       (try replace A7 := Lib.hid (A7.out.below (show Below _ _ w9 by rw [hw]; exact below_new _ _) rfl))
       (try replace A8 := Lib.hid (A8.out.below (show Below _ _ w9 by rw [hw]; exact below_new _ _) rfl))
       clear hc8 hx8
       clear hw hS0
       try simp only [Act.put, List.setIfInBounds_toArray, List.set_cons_zero, List.set_cons_succ]
       refine wpAnyH_ready (rs := [11]) (by kernel_rfl) (by simp) (AllReadyH.cons (o := ⟨none, _, _, _, _, _⟩) rfl (fun K hK => ?_) AllReadyH.nil)
       have k19 := cell_of_one XY.out
       have f19 := frozen_of_row _ c8 0 _ _ XY.out
       replace hS := hS.setCell (p := ⟨c8, 0, none⟩) (by simpa using G8.out) (Value.pointer (pa m))
       go_simp
       refine hK.out _ _ hS (fun _ => ?_)
       clear hK K k19 f19
       try simp only [Act.put, List.setIfInBounds_toArray, List.set_cons_zero, List.set_cons_succ]
       refine wpAnyH_take (i := 12) (oi := ⟨some 9, _, _, _, _, _⟩) (v := ?_) rfl (by kernel_rfl) (by kernel_rfl) (by kernel_rfl) (fun _ _ _ h => h) (Or.inl ⟨by rfl, ?_⟩) hS ?_
       rotate_left 1
       · intro w' hB; have hr := hB.mono (Nat.le_of_eq HS6.out); have k0 := cell_of_one (boxStays Y0.out hr); have k1 := cell_of_one (boxStays Y1.out hr); clear hr; (go_simp <;> with_reducible rfl)
       try simp only [Act.put, List.setIfInBounds_toArray, List.set_cons_zero, List.set_cons_succ]
       refine wpAnyH_done (by kernel_rfl) (NoPanic.normal ?_) _
     case' way3 =>
       go_simp
       refine hK.out _ _ (hS.alloc (Nat.le_trans HZB.out hS.size) _) (fun _ => ?_)
       clear hK K
       refine wpAnyH_madeK hS (Nat.le_trans HZB.out hS.size) ?_
       have hS0 := hS
       clear hS
       rintro w9 hw hS
       obtain ⟨c8, hc8, hx8⟩ := made_at8S hw
       have G8 : Hid (s6 ≤ c8) := Lib.hid (by have h2 := hS0.size; have h3 := HZB.out; rw [hc8] at h2; omega)
       (try simp at hc8)
       rw [hc8]
       have XY := Lib.hid hx8
       (try replace A7 := Lib.hid (A7.out.below (show Below _ _ w9 by rw [hw]; exact below_new _ _) rfl))
       (try replace A8 := Lib.hid (A8.out.below (show Below _ _ w9 by rw [hw]; exact below_new _ _) rfl))
       clear hc8 hx8
       clear hw hS0
       try simp only [Act.put, List.setIfInBounds_toArray, List.set_cons_zero, List.set_cons_succ]
       refine wpAnyH_ready (rs := [6]) (by kernel_rfl) (by simp) (AllReadyH.cons (o := ⟨some 26, _, _, _, _, _⟩) rfl (fun K hK => ?_) AllReadyH.nil)
       go_simp
       refine (pm_JoinS a t' k v N _ (Nat.le_trans (Nat.le_trans hN D2.out.size) (hS.mono (Nat.le_of_eq HS6.out)).size) (A2.out.below (hS.mono (Nat.le_of_eq HS6.out)) rfl) A7.out (by have := P1.out.2.2; omega)).mono ?_
       rintro e w8 ⟨m, nn, hJ, rfl, hA, hb⟩
       refine hK.out _ _ (hS.trans (hb.mono (Nat.le_trans HZB.out hS.size))) (fun _ => ?_)
       clear hK K
       replace hS := hS.trans (hb.mono (Nat.le_trans HZB.out hS.size))
       have P2 := Lib.hid hJ
       have A8 := Lib.hid hA
       clear hJ hA
       (try replace XY := Lib.hid (boxStays XY.out hb))
       clear hb
       try simp only [Act.put, List.setIfInBounds_toArray, List.set_cons_zero, List.set_cons_succ]
       refine wpAnyH_take (i := 7) (oi := ⟨some 19, _, _, _, _, _⟩) (v := ?_) rfl (by kernel_rfl) (by kernel_rfl) (by kernel_rfl) (fun _ _ _ h => h) (Or.inl ⟨by rfl, ?_⟩) hS ?_
       rotate_left 1
       · intro w' hB; have hr := hB.mono (Nat.le_of_eq HS6.out); have k0 := cell_of_one (boxStays Y0.out hr); have k1 := cell_of_one (boxStays Y1.out hr); clear hr; (go_simp <;> with_reducible rfl)
       try simp only [Act.put, List.setIfInBounds_toArray, List.set_cons_zero, List.set_cons_succ]
       refine wpAnyH_take (i := 8) (oi := ⟨some 27, _, _, _, _, _⟩) (v := ?_) rfl (by kernel_rfl) (by kernel_rfl) (by kernel_rfl) (fun _ _ _ h => h) (Or.inl ⟨by rfl, ?_⟩) hS ?_
       rotate_left 1
       · intro w' hB; have hr := hB.mono (Nat.le_of_eq HS6.out); have k0 := cell_of_one (boxStays Y0.out hr); have k1 := cell_of_one (boxStays Y1.out hr); clear hr; (go_simp <;> with_reducible rfl)
       try simp only [Act.put, List.setIfInBounds_toArray, List.set_cons_zero, List.set_cons_succ]
       refine wpAnyH_take (i := 9) (oi := ⟨some 28, _, _, _, _, _⟩) (v := ?_) rfl (by kernel_rfl) (by kernel_rfl) (by kernel_rfl) (fun _ _ _ h => h) (Or.inl ⟨by rfl, ?_⟩) hS ?_
       rotate_left 1
       · intro w' hB; have hr := hB.mono (Nat.le_of_eq HS6.out); have k0 := cell_of_one (boxStays Y0.out hr); have k1 := cell_of_one (boxStays Y1.out hr); clear hr; (go_simp <;> with_reducible rfl)
       try simp only [Act.put, List.setIfInBounds_toArray, List.set_cons_zero, List.set_cons_succ]
       refine wpAnyH_ready (rs := [11]) (by kernel_rfl) (by simp) (AllReadyH.cons (o := ⟨none, _, _, _, _, _⟩) rfl (fun K hK => ?_) AllReadyH.nil)
       have k19 := cell_of_one XY.out
       have f19 := frozen_of_row _ c8 0 _ _ XY.out
       replace hS := hS.setCell (p := ⟨c8, 0, none⟩) (by simpa using G8.out) (Value.pointer (pa m))
       go_simp
       refine hK.out _ _ hS (fun _ => ?_)
       clear hK K k19 f19
       try simp only [Act.put, List.setIfInBounds_toArray, List.set_cons_zero, List.set_cons_succ]
       refine wpAnyH_take (i := 12) (oi := ⟨some 9, _, _, _, _, _⟩) (v := ?_) rfl (by kernel_rfl) (by kernel_rfl) (by kernel_rfl) (fun _ _ _ h => h) (Or.inl ⟨by rfl, ?_⟩) hS ?_
       rotate_left 1
       · intro w' hB; have hr := hB.mono (Nat.le_of_eq HS6.out); have k0 := cell_of_one (boxStays Y0.out hr); have k1 := cell_of_one (boxStays Y1.out hr); clear hr; (go_simp <;> with_reducible rfl)
       try simp only [Act.put, List.setIfInBounds_toArray, List.set_cons_zero, List.set_cons_succ]
       refine wpAnyH_done (by kernel_rfl) (NoPanic.normal ?_) _
   case' way1 =>
     go_simp
     refine hK.out _ _ (hS.alloc (Nat.le_trans HZB.out hS.size) _) (fun _ => ?_)
     clear hK K
     refine wpAnyH_madeK hS (Nat.le_trans HZB.out hS.size) ?_
     have hS0 := hS
     clear hS
     rintro w9 hw hS
     obtain ⟨c8, hc8, hx8⟩ := made_at8S hw
     have G8 : Hid (s6 ≤ c8) := Lib.hid (by have h2 := hS0.size; have h3 := HZB.out; rw [hc8] at h2; omega)
     (try simp at hc8)
     rw [hc8]
     have XY := Lib.hid hx8
     (try replace A7 := Lib.hid (A7.out.below (show Below _ _ w9 by rw [hw]; exact below_new _ _) rfl))
     (try replace A8 := Lib.hid (A8.out.below (show Below _ _ w9 by rw [hw]; exact below_new _ _) rfl))
     clear hc8 hx8
     clear hw hS0
     try simp only [Act.put, List.setIfInBounds_toArray, List.set_cons_zero, List.set_cons_succ]
     refine wpAnyH_ready (rs := [5]) (by kernel_rfl) (by simp) (AllReadyH.cons (o := ⟨some 25, _, _, _, _, _⟩) rfl (fun K hK => ?_) AllReadyH.nil)
     go_simp
     refine (CT.out _ hS).mono ?_
     rintro e w7 ⟨t', rfl, hP, hA, hb⟩
     refine hK.out _ _ (hS.trans (hb.mono (Nat.le_trans HZB.out hS.size))) (fun _ => ?_)
     clear hK K
     replace hS := hS.trans (hb.mono (Nat.le_trans HZB.out hS.size))
     have P1 := Lib.hid hP
     have A7 := Lib.hid hA
     clear hP hA
     (try replace XY := Lib.hid (boxStays XY.out hb))
     clear hb
     try simp only [Act.put, List.setIfInBounds_toArray, List.set_cons_zero, List.set_cons_succ]
     refine wpAnyH_ready (rs := [6]) (by kernel_rfl) (by simp) (AllReadyH.cons (o := ⟨some 26, _, _, _, _, _⟩) rfl (fun K hK => ?_) AllReadyH.nil)
     go_simp
     refine (pm_JoinS a t' k v N _ (Nat.le_trans (Nat.le_trans hN D2.out.size) (hS.mono (Nat.le_of_eq HS6.out)).size) (A2.out.below (hS.mono (Nat.le_of_eq HS6.out)) rfl) A7.out (by have := P1.out.2.2; omega)).mono ?_
     rintro e w8 ⟨m, nn, hJ, rfl, hA, hb⟩
     refine hK.out _ _ (hS.trans (hb.mono (Nat.le_trans HZB.out hS.size))) (fun _ => ?_)
     clear hK K
     replace hS := hS.trans (hb.mono (Nat.le_trans HZB.out hS.size))
     have P2 := Lib.hid hJ
     have A8 := Lib.hid hA
     clear hJ hA
     (try replace XY := Lib.hid (boxStays XY.out hb))
     clear hb
     try simp only [Act.put, List.setIfInBounds_toArray, List.set_cons_zero, List.set_cons_succ]
     refine wpAnyH_take (i := 7) (oi := ⟨some 19, _, _, _, _, _⟩) (v := ?_) rfl (by kernel_rfl) (by kernel_rfl) (by kernel_rfl) (fun _ _ _ h => h) (Or.inl ⟨by rfl, ?_⟩) hS ?_
     rotate_left 1
     · intro w' hB; have hr := hB.mono (Nat.le_of_eq HS6.out); have k0 := cell_of_one (boxStays Y0.out hr); have k1 := cell_of_one (boxStays Y1.out hr); clear hr; (go_simp <;> with_reducible rfl)
     try simp only [Act.put, List.setIfInBounds_toArray, List.set_cons_zero, List.set_cons_succ]
     refine wpAnyH_take (i := 8) (oi := ⟨some 27, _, _, _, _, _⟩) (v := ?_) rfl (by kernel_rfl) (by kernel_rfl) (by kernel_rfl) (fun _ _ _ h => h) (Or.inl ⟨by rfl, ?_⟩) hS ?_
     rotate_left 1
     · intro w' hB; have hr := hB.mono (Nat.le_of_eq HS6.out); have k0 := cell_of_one (boxStays Y0.out hr); have k1 := cell_of_one (boxStays Y1.out hr); clear hr; (go_simp <;> with_reducible rfl)
     try simp only [Act.put, List.setIfInBounds_toArray, List.set_cons_zero, List.set_cons_succ]
     refine wpAnyH_take (i := 9) (oi := ⟨some 28, _, _, _, _, _⟩) (v := ?_) rfl (by kernel_rfl) (by kernel_rfl) (by kernel_rfl) (fun _ _ _ h => h) (Or.inl ⟨by rfl, ?_⟩) hS ?_
     rotate_left 1
     · intro w' hB; have hr := hB.mono (Nat.le_of_eq HS6.out); have k0 := cell_of_one (boxStays Y0.out hr); have k1 := cell_of_one (boxStays Y1.out hr); clear hr; (go_simp <;> with_reducible rfl)
     try simp only [Act.put, List.setIfInBounds_toArray, List.set_cons_zero, List.set_cons_succ]
     refine wpAnyH_ready (rs := [11]) (by kernel_rfl) (by simp) (AllReadyH.cons (o := ⟨none, _, _, _, _, _⟩) rfl (fun K hK => ?_) AllReadyH.nil)
     have k19 := cell_of_one XY.out
     have f19 := frozen_of_row _ c8 0 _ _ XY.out
     replace hS := hS.setCell (p := ⟨c8, 0, none⟩) (by simpa using G8.out) (Value.pointer (pa m))
     go_simp
     refine hK.out _ _ hS (fun _ => ?_)
     clear hK K k19 f19
     try simp only [Act.put, List.setIfInBounds_toArray, List.set_cons_zero, List.set_cons_succ]
     refine wpAnyH_take (i := 12) (oi := ⟨some 9, _, _, _, _, _⟩) (v := ?_) rfl (by kernel_rfl) (by kernel_rfl) (by kernel_rfl) (fun _ _ _ h => h) (Or.inl ⟨by rfl, ?_⟩) hS ?_
     rotate_left 1
     · intro w' hB; have hr := hB.mono (Nat.le_of_eq HS6.out); have k0 := cell_of_one (boxStays Y0.out hr); have k1 := cell_of_one (boxStays Y1.out hr); clear hr; (go_simp <;> with_reducible rfl)
     try simp only [Act.put, List.setIfInBounds_toArray, List.set_cons_zero, List.set_cons_succ]
     refine wpAnyH_done (by kernel_rfl) (NoPanic.normal ?_) _
   all_goals
     have hS2 := hS.mono (Nat.le_of_eq HS6.out)
     have JM : Hid (items m = items a ++ items b ∧ Bal m) := Lib.hid (by
       have hsb := HS.out
       rw [HR.out, ← P1.out.1] at hsb
       rcases P2.out with ⟨_, h1, _⟩ | ⟨h1, _⟩
       · exact ⟨by rw [h1.items, HR.out, P1.out.1], (h1.bal BA.out P1.out.2.1).1⟩
       · exact absurd (join_ok_ofS hsb) h1)
     have K8 := Lib.hid (heap_setCell_same _ c8 0 _ _ (.pointer (pa m)) XY.out)
     have M8 := Lib.hid (A8.out.setBox XY.out (by decide) 0 (.pointer (pa m)))
     have Y8 := Lib.hid (boxStays Y2.out hS2)
     have D8 := Lib.hid (D2.out.trans (hS2.mono D2.out.size))
     clear hS hS2 XY A8 A7 CT Y0 Y1 Y2 D2 A2 B2
     have k8 := cell_of_one K8.out
     have k2 := cell_of_one Y8.out
     have f2 := frozen_of_row _ (w.heap.size + 1 + 1) 0 _ _ Y8.out
     go_wp2_with fail
     have k3 := cell_of_one (heap_setCell_same _ (w.heap.size + 1 + 1) 0 _ _ (.pointer (pa m)) Y8.out)
     clear k8 k2 f2
     refine bodyPost_ret (v := .agg #[.pointer (pa m)]) (by simp [results, Try.results148, go_sem, k3]) rfl ?_
     exact ⟨m, rfl, JM.out.1, JM.out.2, M8.out.setBox Y8.out (by decide) 0 _, D8.out.setCell (p := ⟨w.heap.size + 1 + 1, 0, none⟩) (by simp; omega) _⟩
end Go.Proofs.Ytnpiepimajippaa
namespace Go.Proofs.Ytnpiepimajippaa
open Go.RowKit
structure KeepX (Ex : Nat → TypeId → Prop) (A B : World) : Prop where
 os : B.os = A.os
 tape : B.tape = A.tape
 output : B.output = A.output
 size : A.heap.size ≤ B.heap.size
 rest : ∀ k o, A.heap[k]? = some o → (∀ c t fr, o = .cells c t fr → ¬ Ex k t) → B.heap[k]? = some o
theorem KeepX.refl {Ex : Nat → TypeId → Prop} (A : World) : KeepX Ex A A := ⟨rfl, rfl, rfl, Nat.le_refl _, fun _ _ h _ => h⟩
theorem KeepX.trans {Ex : Nat → TypeId → Prop} {A B C : World} (h : KeepX Ex A B) (k : KeepX Ex B C) : KeepX Ex A C :=
 ⟨k.os.trans h.os, k.tape.trans h.tape, k.output.trans h.output, Nat.le_trans h.size k.size, fun i o ho ht => k.rest i o (h.rest i o ho ht) ht⟩
theorem KeepX.monoX {Ex Ex' : Nat → TypeId → Prop} {A B : World} (h : KeepX Ex A B) (hx : ∀ k t, Ex k t → Ex' k t) : KeepX Ex' A B :=
 ⟨h.os, h.tape, h.output, h.size, fun k o ho ht => h.rest k o ho fun c t fr e hh => ht c t fr e (hx k t hh)⟩
theorem KeepX.ofBelow {Ex : Nat → TypeId → Prop} {A B : World} (h : Below A.heap.size A B) : KeepX Ex A B :=
 ⟨h.os, h.tape, h.output, h.size, fun k _ ho _ => (h.block k (Array.getElem?_eq_some_iff.1 ho).1).trans ho⟩
theorem KeepX.toBelow {Ex : Nat → TypeId → Prop} {A B : World} (h : KeepX Ex A B) (hx : ∀ k t, k < A.heap.size → ¬ Ex k t) : Below A.heap.size A B :=
 ⟨h.os, h.tape, h.output, h.size, fun k hk => by
   cases e : A.heap[k]? with
   | none => rw [Array.getElem?_eq_none_iff] at e; omega
   | some o => exact h.rest k o e fun _ t _ _ => hx k t hk⟩
theorem KeepX.less {Ex Ex' : Nat → TypeId → Prop} {A B : World} (h : KeepX Ex A B) (hx : ∀ k t, k < A.heap.size → Ex k t → Ex' k t) : KeepX Ex' A B :=
 ⟨h.os, h.tape, h.output, h.size, fun k o ho ht => h.rest k o ho fun c t fr e hh => ht c t fr e (hx k t (Array.getElem?_eq_some_iff.1 ho).1 hh)⟩
theorem KeepX.drew {Ex : Nat → TypeId → Prop} {A B : World} (h : KeepX Ex A B) : KeepX Ex A B.drew := h.trans (KeepX.ofBelow (Below.refl _ B).drew)
theorem KeepX.alloc {Ex : Nat → TypeId → Prop} {A B : World} (h : KeepX Ex A B) (o : Obj) : KeepX Ex A (B.alloc o) :=
 h.trans (KeepX.ofBelow ((Below.refl _ B).alloc (Nat.le_refl _) o))
theorem KeepX.row {Ex : Nat → TypeId → Prop} {A B : World} (h : KeepX Ex A B) {b : Nat} {cs : Array Value} {t : TypeId} {fr : Nat × Nat} (hb : A.heap[b]? = some (.cells cs t fr)) (ht : ¬ Ex b t) : B.heap[b]? = some (.cells cs t fr) :=
 h.rest b _ hb fun c t' fr' e => by cases e; exact ht
theorem KeepX.setNew {Ex : Nat → TypeId → Prop} {A B : World} (h : KeepX Ex A B) {X : Nat} (hX : A.heap.size ≤ X) (i : Nat) (v : Value) : KeepX Ex A (B.setCell ⟨X, i, none⟩ v) :=
 ⟨h.os, h.tape, h.output, by simpa [World.setCell] using h.size, fun k o ho ht => (Below.heap_setCell _ _ _ _ (by
   have := (Array.getElem?_eq_some_iff.1 ho).1
   show k ≠ X
   omega)).trans (h.rest k o ho ht)⟩
theorem KeepX.setRow {Ex : Nat → TypeId → Prop} {A B : World} (h : KeepX Ex A B) {X : Nat} {cs : Array Value} {t : TypeId} {fr : Nat × Nat} (hX : B.heap[X]? = some (.cells cs t fr)) (ht : Ex X t) (i : Nat) (v : Value) : KeepX Ex A (B.setCell ⟨X, i, none⟩ v) :=
 ⟨h.os, h.tape, h.output, by simpa [World.setCell] using h.size, fun k o ho hn => (Below.heap_setCell _ _ _ _ (by
   show k ≠ X
   rintro rfl
   have h1 := h.rest k o ho hn
   rw [hX] at h1
   cases h1
   exact hn _ _ _ rfl ht)).trans (h.rest k o ho hn)⟩
def ChE (Ex : Nat → TypeId → Prop) (ws : List World) (w : World) : Prop := ∀ W ∈ ws, KeepX Ex W w
theorem ChE.one {Ex : Nat → TypeId → Prop} (w : World) : ChE Ex [w] w := fun W hW => by
 obtain rfl := List.mem_singleton.1 hW
 exact KeepX.refl _
theorem ChE.push {Ex : Nat → TypeId → Prop} {ws : List World} {w w' : World} (h : ChE Ex ws w) (hb : KeepX Ex w w') : ChE Ex (w' :: ws) w' := fun W hW => by
 rcases List.mem_cons.1 hW with rfl | hW
 · exact KeepX.refl _
 · exact (h W hW).trans hb
theorem ChE.to {Ex : Nat → TypeId → Prop} {ws : List World} {w : World} (h : ChE Ex ws w) (W : World) (hW : W ∈ ws) : KeepX Ex W w := h W hW
section
variable {P : Program} {ops : Array Oper} {Q : Exit → Act → World → Prop} {md : Region.Mode}
theorem wpAnyH_madeX {Ex : Nat → TypeId → Prop} {W w1 : World} {o : Obj} (hS : KeepX Ex W w1) {fuel : Nat} {listed : Array Bool} {a : Act}
   (h : ∀ w2, w2 = w1.alloc o → KeepX Ex W w2 → wpAnyH P md ops Q (fun w' => KeepX Ex W w') fuel listed a w2) : wpAnyH P md ops Q (fun w' => KeepX Ex W w') fuel listed a (w1.alloc o) :=
 h _ rfl (hS.alloc o)
end
end Go.Proofs.Ytnpiepimajippaa
namespace Go.Proofs.Ytnpiepimajippaa
open Go.RowKit Pm
theorem AtS.keepX {Ex : Nat → TypeId → Prop} {w w' : World} {t : Tr ByteArray} (h : AtS w t) (hk : KeepX Ex w w') (hn : ∀ k, ¬ Ex k 110) : AtS w' t := by
 induction t with
 | nil => trivial
 | node b l k v r ih1 ih2 =>
   obtain ⟨h1, h2, h3⟩ := h
   exact ⟨hk.row h1 (hn _), ih1 h2, ih2 h3⟩
theorem AtS.uniq {w : World} : ∀ {t t' : Tr ByteArray}, AtS w t → AtS w t' → pa t = pa t' → t = t'
 | .nil, .nil, _, _, _ => rfl
 | .nil, .node .., _, _, h => by simp [pa] at h
 | .node .., .nil, _, _, h => by simp [pa] at h
 | .node b l k v r, .node b' l' k' v' r', h1, h2, h => by
   simp [pa] at h
   subst h
   obtain ⟨e1, l1, r1⟩ := h1
   obtain ⟨e2, l2, r2⟩ := h2
   rw [e1] at e2
   simp only [Option.some.injEq, Obj.cells.injEq, Array.mk.injEq, List.cons.injEq, Value.pointer.injEq, Value.string.injEq, Value.int.injEq, and_true, true_and] at e2
   obtain ⟨e3, e4, e5, e6, _⟩ := e2
   rw [AtS.uniq l1 l2 e3, AtS.uniq r1 r2 e4, e5, e6]
end Go.Proofs.Ytnpiepimajippaa
