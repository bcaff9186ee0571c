
/- Walks: From, All: the iterator's promise. -/
import Derived.Test.YtdodkhhlbjamhaaPmII
import Derived.Laws.EntriesVeiled
namespace Go.Proofs.Ytdodkhhlbjamhaa
open Go.RowKit Pm
attribute [local go_sem] Oper.semAt_some
set_option maxRecDepth 100000 in
set_option maxHeartbeats 2000000 in
theorem pm_from_iterI (n : Nat) (key : ByteArray) (t : Tr Int) (kb mb : Nat) (w : World) (S : Nat → Prop) (Ex : TypeId → Prop)
    (hk : Boxed w kb 9 (.string key)) (hm : Boxed w mb 29 (.pointer (pa t))) (ha : AtI w t) (hSk : S kb) (hSt : ∀ b ∈ blocks t, S b) (hSN : ∀ k, S k → k < w.heap.size)
    (h5 : ¬ Ex 89) (h6 : ¬ Ex 96) :
    Iter2 n Try.prog 57 #[.pointer (some ⟨kb, 0, none⟩), .pointer (some ⟨mb, 0, none⟩)] encKVI (KeepE (w.heap.size + 2) S Ex)
      (fun pre x _ => pre ++ [x] <+: fromL key t) (fun _ xs W2 W' => xs = fromL key t ∧ W2 = W') (fun pre => pre <+: fromL key t) w := by
  intro ll J Jx W hW hW2 hJo hJxo hY h0
  have hkW : Boxed W kb 9 (.string key) := boxStays hk hW
  have hmW : Boxed W mb 29 (.pointer (pa t)) := boxStays hm hW
  obtain ⟨s, hs⟩ : ∃ s, s = W.heap.size := ⟨_, rfl⟩
  obtain ⟨gv, hgv⟩ : ∃ gv : Value, gv = .func (.func 58) #[] #[.pointer (some ⟨kb, 0, none⟩), .pointer (some ⟨s + 1, 0, none⟩), .pointer (some ⟨s, 0, none⟩)] := ⟨_, rfl⟩
  obtain ⟨Wb, hWb⟩ : ∃ Wb, (W.alloc (.cells #[.func (.yield ll) #[] #[]] 96)).alloc (.cells #[gv] 89) = Wb := ⟨_, rfl⟩
  have g1 : Boxed Wb s 96 (.func (.yield ll) #[] #[]) := by rw [← hWb, hs]; exact (Boxed.new W _ _).alloc _
  have g2 : Boxed Wb (s + 1) 89 gv := by
    have h1 := Boxed.new (W.alloc (.cells #[.func (.yield ll) #[] #[]] 96)) 89 gv
    rw [World.size_alloc, ← hs] at h1
    rw [← hWb]; exact h1
  have hbw : Below W.heap.size W Wb := by rw [← hWb]; exact ((Below.refl _ W).alloc (Nat.le_refl _) _).alloc (by simp) _
  have hsw : w.heap.size + 2 ≤ s := by rw [hs]; exact hW2
  have g3 : Boxed Wb kb 9 (.string key) := boxStays hkW hbw
  have g4 : Boxed Wb mb 29 (.pointer (pa t)) := boxStays hmW hbw
  have g5 : AtI Wb t := (ha.below hW rfl).below hbw rfl
  have hJb : J [] Wb := ownFrom_to hJo h0 hbw
  have GO := Lib.hid (go1_fromI key kb (s + 1) s ll (w.heap.size + 2) S Ex (fromL key t) J Jx _ hJo hSk (by omega) (by omega) h5 h6 (fun pre x W1 hj hx => yieldW (hY pre x W1 hj hx)) t [] Wb hSt
    (fun k hk => Nat.lt_of_lt_of_le (hSN k hk) (Nat.le_trans hW.size hbw.size)) hJb ⟨g3, by rw [← hgv]; exact g2, g1, g5⟩ (by simp))
  have k4 := cell_of_one g4
  rw [hgv] at hWb
  subst hs
  rw [← hWb] at k4
  have HW := Lib.hid hWb
  clear hY hJb g1 g2 g3 g4 g5 hbw h0 hWb hkW hmW hJo hJxo ha hk hm hSN hgv
  refine callsIn_of_wp Try.func57 rfl trivial ?_ rfl
  simp only [Try.ntmps57, List.size_toArray, List.length_cons, List.length_nil, Nat.reduceAdd, Nat.reduceSub, Array.replicate_succ, Array.replicate_zero, List.push_toArray, List.append_toArray, List.nil_append, List.cons_append]
  gi_wp2
  rw [HW.out]
  refine ⟨trivial, fun hh => (by cases (show false = true from hh)), ?_⟩
  refine (callsIn_wide.2 GO.out).mono ?_
  rintro e W' (⟨rfl, hJ', _⟩ | ⟨rfl, ⟨pre', hp, hJx'⟩, _⟩)
  · gi_wp2
    go_end0
    exact ⟨⟨_, rfl⟩, .inl ⟨fromL key t, _, by simpa using hJ', rfl, rfl⟩⟩
  · gi_wp2
    go_end0
    exact ⟨⟨_, rfl⟩, .inr ⟨pre', hp, hJx'⟩⟩
theorem pm_MFromI (t : Tr Int) (key : ByteArray) (w : World) : Calls Try.prog 49 #[.agg #[.pointer (pa t)], .string key] w fun e w' =>
    ∃ kb mb, e = .returned (.func (.func 57) #[] #[.pointer (some ⟨kb, 0, none⟩), .pointer (some ⟨mb, 0, none⟩)]) ∧ w.heap.size ≤ kb ∧ w.heap.size ≤ mb ∧ Boxed w' kb 9 (.string key) ∧ Boxed w' mb 29 (.pointer (pa t)) ∧ Below w.heap.size w w' := by
  go_enter Try.func49, Try.ntmps49
  go_wp2_with fail
  go_ret
  refine ⟨w.heap.size + 1, w.heap.size, rfl, by omega, Nat.le_refl _, ?_, (Boxed.new w _ _).alloc _, (below_new w _).trans ((below_new _ _).mono (by simp))⟩
  have h1 := Boxed.new (w.alloc (.cells #[.pointer (pa t)] 29)) 9 (.string key)
  rw [World.size_alloc] at h1
  exact h1
theorem pm_MAllI (t : Tr Int) (w : World) : Calls Try.prog 37 #[.agg #[.pointer (pa t)]] w fun e w' =>
    ∃ kb mb, e = .returned (.func (.func 57) #[] #[.pointer (some ⟨kb, 0, none⟩), .pointer (some ⟨mb, 0, none⟩)]) ∧ w.heap.size ≤ kb ∧ w.heap.size ≤ mb ∧ Boxed w' kb 9 (.string ⟨#[]⟩) ∧ Boxed w' mb 29 (.pointer (pa t)) ∧ Below w.heap.size w w' := by
  go_enter Try.func37, Try.ntmps37
  go_wp2_with fail
  refine (pm_MFromI t ⟨#[]⟩ _).mono ?_
  rintro e w' ⟨kb, mb, rfl, h1, h2, h3, h4, hb⟩
  have h1' : w.heap.size ≤ kb := by simp at h1; omega
  have h2' : w.heap.size ≤ mb := by simp at h2; omega
  have H3 := Lib.hid h3
  have H4 := Lib.hid h4
  have HB := Lib.hid ((below_new w (.cells #[.pointer (pa t)] 29)).trans (hb.mono (by simp)))
  clear h1 h2 h3 h4 hb
  go_wp2_with fail
  go_ret
  exact ⟨kb, mb, rfl, h1', h2', H3.out, H4.out, HB.out⟩
end Go.Proofs.Ytdodkhhlbjamhaa

