
/- Walks: the frames of bytes, gone over, within another iterator too. -/
import Derived.Test.YtpbjhfajekfjeaaFrameR3
import Derived.Test.YtpbjhfajekfjeaaRange2
import Derived.Shelf.Abstract
import Derived.Shelf.RegionOpen
import Derived.OwnWalkIn
import Derived.TacticsInMore
import Derived.LoopNIn
import Derived.LoopIn
namespace Go.Proofs.Ytpbjhfajekfjeaa
open Go.RowKit Frm
attribute [local go_sem] Oper.semAt_some
/-- What is known of a frame that is handed over: it is new, and the next one. -/
def newFR2 (R : List (Nat × Nat × List UInt8) × Nat × Nat) (N : Nat) (pre : List FR) (x : FR) (W : World) : Prop := newFR N pre x W ∧ FirstW R (pre ++ [x])
theorem newFR2_own (R : List (Nat × Nat × List UInt8) × Nat × Nat) (N B : Nat) (pre : List FR) : OwnFrom B (newFR2 R N pre) := fun x A A' row h hg hr => ⟨newFR_own N B pre x A A' row h.1 hg hr, h.2⟩
/-- Each frame stands behind the one ahead of it. -/
theorem scanF_place : ∀ (f : Nat) (l : List UInt8) (at0 : Nat) (p : List (Nat × Nat × List UInt8)) (x : Nat × Nat × List UInt8) (q : List (Nat × Nat × List UInt8)), (scanF f l at0).1 = p ++ x :: q → x.1 = match p.getLast? with | none => at0 | some y => y.1 + (9 + y.2.2.length) := by
  intro f
  induction f with
  | zero => intro l at0 p x q h; simp [scanF] at h
  | succ f ih =>
    intro l at0 p x q h
    unfold scanF at h
    by_cases h0 : l.length = 0
    · rw [if_pos h0] at h; simp at h
    · rw [if_neg h0] at h
      by_cases h1 : (begF l).2.2.2 = 0
      · rw [if_neg (by simpa using h1)] at h
        obtain ⟨g1, g2, g3, g4⟩ := begF_good l h1
        cases p with
        | nil => simp only [List.nil_append, List.cons.injEq] at h; rw [← h.1]; rfl
        | cons y p =>
          simp only [List.cons_append, List.cons.injEq] at h
          have h2 := ih _ _ p x q h.2
          rw [h2, List.getLast?_cons]
          cases hp : p.getLast? with
          | none => simp [← h.1]; omega
          | some z => simp
      · rw [if_pos (by simpa using h1)] at h; simp at h
/-- These blocks stand. -/
structure KeepS (S : Nat → Prop) (W W' : World) : Prop where
  os : W'.os = W.os
  tape : W'.tape = W.tape
  output : W'.output = W.output
  size : W.heap.size ≤ W'.heap.size
  block : ∀ k, S k → W'.heap[k]? = W.heap[k]?
theorem KeepS.refl (S : Nat → Prop) (W : World) : KeepS S W W := ⟨rfl, rfl, rfl, Nat.le_refl _, fun _ _ => rfl⟩
theorem KeepS.trans {S : Nat → Prop} {A B C : World} (h : KeepS S A B) (k : KeepS S B C) : KeepS S A C :=
  ⟨k.os.trans h.os, k.tape.trans h.tape, k.output.trans h.output, Nat.le_trans h.size k.size, fun i hi => (k.block i hi).trans (h.block i hi)⟩
theorem KeepS.below {S : Nat → Prop} {N : Nat} {A B : World} (h : Below N A B) (hS : ∀ k, S k → k < N) : KeepS S A B := ⟨h.os, h.tape, h.output, h.size, fun i hi => h.block i (hS i hi)⟩
theorem KeepS.put {S : Nat → Prop} {N : Nat} (W : World) (l : Nat) (o : Obj) (hl : N ≤ l) (hS : ∀ k, S k → k < N) : KeepS S W (W.putObj l o) :=
  ⟨rfl, rfl, rfl, by simp, fun i hi => World.putObj_heap_other (by have := hS i hi; omega)⟩
theorem KeepS.cell {S : Nat → Prop} {A B : World} (h : KeepS S A B) {p : Addr} {v : Value} (hp : S p.block) (hc : A.cell? p = some v) : B.cell? p = some v := by
  unfold World.cell? at hc ⊢
  rw [h.block _ hp]; exact hc
theorem KeepS.bytes {S : Nat → Prop} {A B : World} (h : KeepS S A B) {a : Option Addr} {l : List UInt8} (hp : l ≠ [] → ∀ ad, a = some ad → S ad.block) (hc : BytesAt A a l) : BytesAt B a l := by
  intro i hi
  obtain ⟨b, off, rfl, c⟩ := hc i hi
  exact ⟨b, off, rfl, h.cell (p := ⟨b, off + i, none⟩) (hp (by rintro rfl; simp at hi) ⟨b, off, none⟩ rfl) c⟩
set_option maxRecDepth 100000 in
set_option maxHeartbeats 2000000 in
theorem walk_iter2 (n : Nat) (hn : 1 ≤ n) (l : List UInt8) (a : Option Addr) (cap : Nat) (w : World) (N : Nat) (S : Nat → Prop) (Bb Bw bw : Nat) (tw : TypeId) (z : Int)
    (h : BytesAt w a l) (hcap : l.length ≤ cap) (hl : l.length ≤ 1048576) (hN : N ≤ w.heap.size)
    (hb : w.heap[Bb]? = some (.cells #[.slice a l.length cap] 22 (0, 0))) (hw : w.heap[Bw]? = some (.cells #[.pointer (some ⟨bw, 0, none⟩)] 47 (0, 0))) (hy : w.heap[bw]? = some (.cells #[.int .i64 z] tw (0, 0)))
    (hSN : ∀ k, S k → k < w.heap.size) (hBb : S Bb) (hBw : S Bw) (hbw : S bw) (hbytes : l ≠ [] → ∀ ad, a = some ad → S ad.block) :
    Iter2 n Try.prog 27 #[.pointer (some ⟨Bb, 0, none⟩), .pointer (some ⟨Bw, 0, none⟩)] encFR (KeepS S) (newFR2 (scanF (l.length + 1) l 0) N)
      (fun _ => EndW bw (scanF (l.length + 1) l 0)) (FirstW (scanF (l.length + 1) l 0)) w := by
  obtain ⟨R, hR⟩ : ∃ R, scanF (l.length + 1) l 0 = R := ⟨_, rfl⟩
  rw [hR]
  intro ll J Jx W hW _ hJo _ hY h0
  have hJ : ∀ pre A B, J pre A → Below A.heap.size A B → J pre B := fun pre A B h hb => ownFrom_to hJo h hb
  refine callsIn_of_wp Try.func27 rfl trivial ?_ rfl
  simp only [Try.ntmps27, List.size_toArray, List.length_cons, List.length_nil, Nat.reduceAdd, Nat.reduceSub, Array.replicate_succ, Array.replicate_zero, List.push_toArray, List.append_toArray, List.nil_append, List.cons_append]
  refine (wpIn_wide (n := n)).2 (wp_scope_straight ((wpIn_wide (n := n)).1 ?_))
  gi_wp2
  refine wpIn_label ?_
  gi_wp2
  have HT : Hid (KeepS S w W) := Lib.hid (KeepS.below hW hSN)
  gi_loopw [4] (fun p wr => ∃ (pre : List FR) (at0 f : Nat), p = .int .i64 (at0 : Int) ∧ J pre wr ∧ pre.length ≤ at0 ∧ at0 ≤ l.length ∧ l.length - at0 < f ∧
      Hid (R = (pre.map plainFR ++ (scanF f (l.drop at0) at0).1, (scanF f (l.drop at0) at0).2)) ∧ Hid (KeepS S w wr) ∧ (∀ y ∈ pre, ∀ k, y.2.2.1.ownBlock = some k → k < wr.heap.size))
    (fun p _ => l.length - (intOf p).toNat)
  case atStart =>
    exact ⟨[], 0, l.length + 1, rfl, h0, by simp, by omega, by omega, Lib.hid (by rw [← hR]; simp), HT, by simp⟩
  case round =>
    obtain ⟨pre, at0, f, rfl, hJs, hpl, hat, hf, HS, HK, hpre⟩ := hrel
    have c1 : wr.cell? ⟨Bb, 0, none⟩ = some (.slice a l.length cap) := HK.out.cell (p := ⟨Bb, 0, none⟩) hBb (cell_of_one hb)
    obtain ⟨f, rfl⟩ : ∃ g, f = g + 1 := ⟨f - 1, by omega⟩
    by_cases hend : at0 = l.length
    · have hlt : ¬ (at0 : Int) < (l.length : Int) := by omega
      subst hend
      have HF : Hid (R = (pre.map plainFR, l.length, 0)) := Lib.hid (by rw [HS.out, List.drop_length]; simp [scanF])
      gi_wp2
      go_end0
      exact ⟨⟨_, rfl⟩, .inl ⟨pre, wr, hJs, by rw [HF.out]; exact ⟨rfl, rfl⟩⟩⟩
    · have hlt : (at0 : Int) < (l.length : Int) := by omega
      have hlen : (l.drop at0).length = l.length - at0 := by simp
      have HLd : Hid ((l.drop at0).length = l.length - at0) := Lib.hid hlen
      have HBy : Hid (BytesAt wr (Option.map (fun x => x.add at0) a) (l.drop at0)) := Lib.hid ((HK.out.bytes hbytes h).drop at0)
      gi_wp2
      refine ⟨trivial, ?_⟩
      rw [← HLd.out]
      refine (callsIn_wide.2 (frame_begin (l.drop at0) _ (cap - at0) wr HBy.out (by simp; omega) (by simp; omega))).mono ?_
      rintro e wN ⟨v, rfl, hown, hbN⟩
      have HO := Lib.hid hown
      have HN := Lib.hid hbN
      obtain ⟨va, vc, rfl⟩ := own_shape hown
      obtain ⟨vn, hvn⟩ : ∃ vn, (begF (l.drop at0)).2.1.length = vn := ⟨_, rfl⟩
      rw [hvn] at HO ⊢
      have HS1 := HS.out
      rw [scanF, if_neg (by rw [hlen]; omega)] at HS1
      have hgood := begF_good (l.drop at0)
      have HVN := Lib.hid hvn
      clear hvn
      obtain ⟨q, hq⟩ : ∃ q, begF (l.drop at0) = q := ⟨_, rfl⟩
      have HQ := Lib.hid hq
      rw [hq] at HO HS1 HVN hgood ⊢
      clear hown hbN hq
      obtain ⟨k, body, m, err⟩ := q
      dsimp only at HO HS1 HVN hgood ⊢
      have KN : Hid (KeepS S w wN) := Lib.hid (HK.out.trans (KeepS.below HN.out (fun k hk => Nat.lt_of_lt_of_le (hSN k hk) HK.out.size)))
      have e1 : wN.heap[bw]? = some (.cells #[.int .i64 z] tw (0, 0)) := (KN.out.block _ hbw).trans hy
      have hbwN : bw < wN.heap.size := (Array.getElem?_eq_some_iff.1 e1).1
      have c2 : wN.cell? ⟨Bw, 0, none⟩ = some (.pointer (some ⟨bw, 0, none⟩)) := KN.out.cell (p := ⟨Bw, 0, none⟩) hBw (cell_of_one hw)
      have c3 : wN.cell? ⟨bw, 0, none⟩ = some (.int .i64 z) := cell_of_one e1
      have f3 : wN.frozen? ⟨bw, 0, none⟩ = false := frozen_of_row _ _ _ _ _ e1
      have hbA : Below wN.heap.size wN (wN.alloc (.cells #[.int .i64 (k : Int), .slice va vn vc] 36)) := (Below.refl _ wN).alloc (Nat.le_refl _) _
      have a2 : (wN.alloc (.cells #[.int .i64 (k : Int), .slice va vn vc] 36)).cell? ⟨Bw, 0, none⟩ = some (.pointer (some ⟨bw, 0, none⟩)) := (hbA.cell (p := ⟨Bw, 0, none⟩) (block_lt_of_cell c2)).trans c2
      have a3 : (wN.alloc (.cells #[.int .i64 (k : Int), .slice va vn vc] 36)).cell? ⟨bw, 0, none⟩ = some (.int .i64 z) := (hbA.cell (p := ⟨bw, 0, none⟩) hbwN).trans c3
      have e3 : (wN.alloc (.cells #[.int .i64 (k : Int), .slice va vn vc] 36)).heap[bw]? = some (.cells #[.int .i64 z] tw (0, 0)) := (hbA.block _ hbwN).trans e1
      have af : (wN.alloc (.cells #[.int .i64 (k : Int), .slice va vn vc] 36)).frozen? ⟨bw, 0, none⟩ = false := frozen_of_row _ _ _ _ _ e3
      have KA : Hid (KeepS S w (wN.alloc (.cells #[.int .i64 (k : Int), .slice va vn vc] 36))) := Lib.hid (KN.out.trans (KeepS.below hbA (fun k hk => Nat.lt_of_lt_of_le (hSN k hk) KN.out.size)))
      obtain ⟨a0, a1⟩ := box2 (World.alloc_heap_new wN (.cells #[.int .i64 (k : Int), .slice va vn vc] 36))
      by_cases he : err = 0
      · subst he
        obtain ⟨g9, gl, gk, gb⟩ := hgood rfl
        rw [show (((0:Nat):Int)) = 0 from rfl]
        rw [if_neg (by simp)] at HS1
        have HS2 := Lib.hid HS1
        clear HS1 hgood HS
        have HX : Hid (newFR2 R N pre (at0, k, .slice va vn vc, body) (wN.alloc (.cells #[.int .i64 (k : Int), .slice va vn vc] 36))) := Lib.hid ⟨⟨⟨hpl, by have := HVN.out; simp at gl ⊢; omega, gk⟩, wr.heap.size, Nat.le_trans hN HK.out.size, (own_len2 HO.out HVN.out).alloc _, hpre⟩, by unfold FirstW; rw [HS2.out]; exact ⟨(scanF f ((l.drop at0).drop m) (at0 + m)).1, by simp [plainFR]⟩⟩
        have HJN : Hid (J pre (wN.alloc (.cells #[.int .i64 (k : Int), .slice va vn vc] 36))) := Lib.hid (hJ _ _ _ hJs (HN.out.alloc HN.out.size _))
        obtain ⟨fn, tmps, assign, body', hyy, hRR⟩ := hY pre (at0, k, .slice va vn vc, body) _ HJN.out HX.out
        simp only [encFR] at hyy
        clear a2 a3 af c2 c3 f3
        gi_wp2
        refine hRR.mono ?_
        rintro e W' (⟨rfl, hJ', hk⟩ | ⟨rfl, hJx', _⟩)
        · have hml : at0 + m ≤ l.length := by rw [hlen] at gl; omega
          gi_wp2
          refine ⟨⟨pre ++ [(at0, k, .slice va vn vc, body)], at0 + m, f, by simp, hJ', by simp; omega, hml, by omega, Lib.hid ?_, Lib.hid (KA.out.trans hk), ?_⟩, ?_⟩
          · rw [HS2.out, List.drop_drop]; simp [plainFR]
          · intro y hy' kk hkk
            have hsz := hk.size
            simp only [List.mem_append, List.mem_singleton] at hy'
            rcases hy' with hy' | rfl
            · have h1 := hpre y hy' kk hkk
              have h2 := HN.out.size
              have h3 := hbA.size
              omega
            · have h1 := own_lt HO.out kk hkk
              have h3 := hbA.size
              omega
          · have e1 : (intOf (Value.int .i64 ((at0 : Int) + (m : Int)))).toNat = at0 + m := by simp [intOf]; omega
            have e2 : (intOf (Value.int .i64 (at0 : Int))).toNat = at0 := by simp [intOf]
            rw [e1, e2]; omega
        · gi_wp2
          try rw [Exit.noGoto_ret]
          refine bodyPost_ret (results_none rfl _ _ _) rfl ?_
          refine ⟨⟨_, rfl⟩, .inr ⟨pre ++ [(at0, k, .slice va vn vc, body)], ?_, hJx'⟩⟩
          unfold FirstW
          rw [HS2.out]
          exact ⟨(scanF f ((l.drop at0).drop m) (at0 + m)).1, by simp [plainFR]⟩
      · rw [if_pos (by simpa using he)] at HS1
        have HS2 := Lib.hid HS1
        clear HS1 hgood HS
        have hcm : (wN.setCell ⟨bw, 0, none⟩ (.int .i64 (err : Int))).alloc (.cells #[.int .i64 (k : Int), .slice va vn vc] 36) = (wN.alloc (.cells #[.int .i64 (k : Int), .slice va vn vc] 36)).setCell ⟨bw, 0, none⟩ (.int .i64 (err : Int)) := by
          exact (World.setCell_alloc_past _ _ _ _ hbwN).symm
        have HCM := Lib.hid hcm
        clear hcm
        have HJA : Hid (J pre (wN.alloc (.cells #[.int .i64 (k : Int), .slice va vn vc] 36))) := Lib.hid (hJ _ _ _ hJs (HN.out.alloc HN.out.size _))
        gi_wp2
        go_end0
        refine ⟨⟨_, rfl⟩, .inl ⟨pre, _, HJA.out, ?_⟩⟩
        rw [HS2.out, HCM.out]
        exact ⟨by simp, by rw [if_neg (by simpa using he)]⟩
end Go.Proofs.Ytpbjhfajekfjeaa

