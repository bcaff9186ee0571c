
/- Words: a map whose keys are nodes. -/
import Derived.Test.YtdodkhhlbjamhaaPmNI
import Derived.Maps.Own
import Derived.MapKept
namespace Go.Proofs.Ytdodkhhlbjamhaa
open Go.RowKit Pm
/-- Block B is a map that holds true at these nodes, and nothing else. -/
def NodeMapI (W : World) (B : Nat) (ps : List Nat) : Prop :=
  ∃ (es : Array MapEntry) (clock : Nat), W.heap[B]? = some (.map es clock) ∧ es.toList.map (fun e => (e.key, e.val)) = ps.map fun b => (Value.pointer (some ⟨b, 0, none⟩), Value.bool true)
/-- These blocks are nodes. -/
def NdsI (W : World) (ps : List Nat) : Prop := ∀ b ∈ ps, ∃ cs, W.heap[b]? = some (.cells cs 77 (0, 0))
theorem AtI.nds {w : World} {t : Tr Int} (h : AtI w t) : NdsI w (blocks t) := by
  induction t with
  | nil => intro b hb; simp [blocks] at hb
  | node b l k v r ih1 ih2 =>
    obtain ⟨h1, h2, h3⟩ := h
    intro b' hb
    simp only [blocks, List.mem_append, List.mem_cons] at hb
    rcases hb with hb | rfl | hb
    · exact ih1 h2 b' hb
    · exact ⟨_, h1⟩
    · exact ih2 h3 b' hb
theorem ptr_equalI (w : World) (b b' : Nat) (h : NdsI w [b, b']) : (Op.equal 27 (.pointer (some ⟨b, 0, none⟩)) (.pointer (some ⟨b', 0, none⟩))).run Try.prog w = .ok (decide (b = b')) w := by
  have hp := Try.underlying27
  obtain ⟨j, hj, hs⟩ : ∃ j, Try.prog.info? 77 = some j ∧ j.size = 6 := by
    have h := infoNodeI
    cases hi : Try.prog.info? 77 with
    | none => rw [hi] at h; cases h
    | some j => rw [hi] at h; exact ⟨j, rfl, by simpa using h⟩
  obtain ⟨c1, h1⟩ := h b (by simp)
  obtain ⟨c2, h2⟩ := h b' (by simp)
  by_cases e : b = b'
  · subst e
    have h : ∀ d : Nat, (Op.equalIn (d + 1) 27 (.pointer (some ⟨b, 0, none⟩)) (.pointer (some ⟨b, 0, none⟩))).run Try.prog w = .ok true w := fun d => by
      simp [Op.equalIn, run_underlying hp, sizeOf, typeInfo, hj, run_sameAddr_same]
    simp [Op.equal, Op.maxDepth, h 9999]
  · have h : ∀ d : Nat, (Op.equalIn (d + 1) 27 (.pointer (some ⟨b, 0, none⟩)) (.pointer (some ⟨b', 0, none⟩))).run Try.prog w = .ok false w := fun d => by
      simp [Op.equalIn, run_underlying hp, sizeOf, typeInfo, hj, hs, run_sameAddr_other w (a := ⟨b, 0, none⟩) (b := ⟨b', 0, none⟩) (by simp [e]) h1 h2]
    simp [Op.equal, Op.maxDepth, h 9999, e]
theorem findAskingI (w : World) (b : Nat) : ∀ (es : List MapEntry) (ps : List Nat) (i : Nat), es.map (fun e => (e.key, e.val)) = ps.map (fun b => (Value.pointer (some ⟨b, 0, none⟩), Value.bool true)) → NdsI w (b :: ps) →
    (b ∉ ps ∧ (Instr.findAsking 27 (.pointer (some ⟨b, 0, none⟩)) es i).run Try.prog w = .ok none w) ∨ (b ∈ ps ∧ ∃ j, (Instr.findAsking 27 (.pointer (some ⟨b, 0, none⟩)) es i).run Try.prog w = .ok (some (j, .bool true)) w)
  | [], ps, i, h, _ => by
    have : ps = [] := by simpa using h.symm
    subst this
    exact .inl ⟨by simp, by simp [Instr.findAsking]⟩
  | e :: es, [], i, h, _ => by simp at h
  | e :: es, p :: ps, i, h, hn => by
    simp only [List.map_cons, List.cons.injEq, Prod.mk.injEq] at h
    obtain ⟨⟨hk, hv⟩, hr⟩ := h
    have he := ptr_equalI w b p (fun x hx => hn x (by simp at hx ⊢; rcases hx with h | h <;> simp [h]))
    by_cases e1 : b = p
    · subst e1
      refine .inr ⟨by simp, i, ?_⟩
      simp only [decide_true] at he
      simp [Instr.findAsking, hk, hv, he]
    · have hd : decide (b = p) = false := by simpa using e1
      rw [hd] at he
      rcases findAskingI w b es ps (i + 1) hr (fun x hx => hn x (by simp at hx ⊢; rcases hx with h | h <;> simp [h])) with ⟨h1, h2⟩ | ⟨h1, j, h2⟩
      · exact .inl ⟨by simp [e1, h1], by simp [Instr.findAsking, hk, he, h2]⟩
      · exact .inr ⟨by simp [h1], j, by simp [Instr.findAsking, hk, he, h2]⟩
theorem findKeyI (w : World) (b : Nat) (es : List MapEntry) (ps : List Nat) (h : es.map (fun e => (e.key, e.val)) = ps.map (fun b => (Value.pointer (some ⟨b, 0, none⟩), Value.bool true))) (hn : NdsI w (b :: ps)) :
    (b ∉ ps ∧ (Instr.findKey 27 (.pointer (some ⟨b, 0, none⟩)) es).run Try.prog w = .ok none w) ∨ (b ∈ ps ∧ ∃ j, (Instr.findKey 27 (.pointer (some ⟨b, 0, none⟩)) es).run Try.prog w = .ok (some (j, .bool true)) w) := by
  have hp := Try.underlying27
  cases es with
  | nil =>
    have : ps = [] := by simpa using h.symm
    subst this
    exact .inl ⟨by simp, by simp [Instr.findKey, run_underlying hp, Instr.findNow]⟩
  | cons e es =>
    have hs : ∀ v, Instr.sameNow (.pointer 77) (.pointer (some ⟨b, 0, none⟩)) v = none := fun v => by simp [Instr.sameNow]
    have hf : Instr.findNow (.pointer 77) (.pointer (some ⟨b, 0, none⟩)) (e :: es) 0 = none := by simp [Instr.findNow, hs]
    have := findAskingI w b (e :: es) ps 0 h hn
    simpa [Instr.findKey, run_underlying hp, hf] using this
theorem checkKeySI (w : World) (em : Bool) (n b : Nat) : (Instr.checkKey em (n + 1) 27 (.pointer (some ⟨b, 0, none⟩))).run Try.prog w = .ok () w := by
  have hp := Try.underlying27
  simp [Instr.checkKey, run_underlying hp]
theorem checkKeyNI (w : World) (em : Bool) (b : Nat) : (Instr.checkKey em 10000 27 (.pointer (some ⟨b, 0, none⟩))).run Try.prog w = .ok () w := checkKeySI w em 9999 b
theorem nodeMap_lookI {w : World} {B : Nat} {ps : List Nat} (h : NodeMapI w B ps) (b : Nat) (hn : NdsI w (b :: ps)) :
    (Instr.lookup 69 (.map (some B)) (.pointer (some ⟨b, 0, none⟩)) false).run Try.prog w = .ok (.bool (decide (b ∈ ps))) w := by
  obtain ⟨es, clock, hB, he⟩ := h
  have hm := Try.underlying69
  have hz : (zeroValue 4).run Try.prog w = .ok (.bool false) w := by kernel_rfl
  have hc := checkKeyNI w es.isEmpty b
  rcases findKeyI w b es.toList ps he hn with ⟨h1, h2⟩ | ⟨h1, j, h2⟩
  · unfold Instr.lookup
    simp [run_underlying hm, Go.MapKept.run_getObj_map hB, hc, h2, hz, h1]
  · unfold Instr.lookup
    simp [run_underlying hm, Go.MapKept.run_getObj_map hB, hc, h2, h1]
theorem nodeMap_putI {w : World} {B : Nat} {ps : List Nat} (h : NodeMapI w B ps) (b : Nat) (hn : NdsI w (b :: ps)) (hb : b ∉ ps) :
    ∃ o, (Instr.mapUpdate 69 (.map (some B)) (.pointer (some ⟨b, 0, none⟩)) (.bool true)).run Try.prog w = .ok () (w.putObj B o) ∧ NodeMapI (w.putObj B o) B (ps ++ [b]) := by
  obtain ⟨es, clock, hB, he⟩ := h
  have hm := Try.underlying69
  have hc := checkKeyNI w false b
  rcases findKeyI w b es.toList ps he hn with ⟨h1, h2⟩ | ⟨h1, j, h2⟩
  · refine ⟨.map (es.push { key := .pointer (some ⟨b, 0, none⟩), val := .bool true, born := clock }) (clock + 1), ?_, ?_⟩
    · unfold Instr.mapUpdate
      simp [run_underlying hm, Go.MapKept.run_getObj_map hB, Go.MapKept.run_setObj_map _ hB, hc, h2]
      rfl
    · exact ⟨_, _, World.putObj_heap_same (Array.getElem?_eq_some_iff.1 hB).1, by simp [he]⟩
  · exact absurd h1 hb
end Go.Proofs.Ytdodkhhlbjamhaa

