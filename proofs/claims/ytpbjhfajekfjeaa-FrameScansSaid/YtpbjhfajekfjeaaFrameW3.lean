
/- Walks: the frames of bytes, gone over. -/
import Derived.Test.YtpbjhfajekfjeaaFrameW2
import Derived.Test.YtpbjhfajekfjeaaRange
import Derived.Shelf.Abstract
import Derived.Shelf.RegionOpen
import Derived.OwnWalkIn
import Derived.TacticsInMore
import Derived.LoopNIn
import Derived.LoopIn
namespace Go.Proofs.Ytpbjhfajekfjeaa
open Go.RowKit Frm
attribute [local go_sem] Oper.semAt_some
/-- The frames of bytes: each with its place; how far they are good; why not further. -/
def scanF : Nat → List UInt8 → Nat → List (Nat × Nat × List UInt8) × Nat × Nat
  | 0, _, at0 => ([], at0, 0)
  | f + 1, l, at0 => if l.length = 0 then ([], at0, 0) else if (begF l).2.2.2 ≠ 0 then ([], at0, (begF l).2.2.2)
    else ((at0, (begF l).1, (begF l).2.1) :: (scanF f (l.drop (begF l).2.2.1) (at0 + (begF l).2.2.1)).1, (scanF f (l.drop (begF l).2.2.1) (at0 + (begF l).2.2.1)).2)
/-- What stood below N stands, but for some blocks. -/
structure KeepB (N : Nat) (Ex : List Nat) (W W' : World) : Prop where
  os : W'.os = W.os
  tape : W'.tape = W.tape
  output : W'.output = W.output
  size : W.heap.size ≤ W'.heap.size
  block : ∀ k, k < N → k ∉ Ex → W'.heap[k]? = W.heap[k]?
theorem KeepB.refl (N : Nat) (Ex : List Nat) (W : World) : KeepB N Ex W W := ⟨rfl, rfl, rfl, Nat.le_refl _, fun _ _ _ => rfl⟩
theorem KeepB.trans {N : Nat} {Ex : List Nat} {A B C : World} (h : KeepB N Ex A B) (k : KeepB N Ex B C) : KeepB N Ex A C :=
  ⟨k.os.trans h.os, k.tape.trans h.tape, k.output.trans h.output, Nat.le_trans h.size k.size, fun i hi he => (k.block i hi he).trans (h.block i hi he)⟩
theorem KeepB.below {N : Nat} {Ex : List Nat} {A B : World} (h : Below N A B) : KeepB N Ex A B := ⟨h.os, h.tape, h.output, h.size, fun i hi _ => h.block i hi⟩
theorem KeepB.put {N : Nat} {Ex : List Nat} (W : World) (l : Nat) (o : Obj) (hl : N ≤ l) : KeepB N Ex W (W.putObj l o) :=
  ⟨rfl, rfl, rfl, by simp, fun i hi _ => World.putObj_heap_other (by omega)⟩
theorem frame_walk (b : Option Addr) (n c : Nat) (a : Option Addr) (w : World) : Calls Try.prog 17 #[.slice b n c, .pointer a] w fun e w' =>
    e = .returned (.func (.func 27) #[] #[.pointer (some ⟨w.heap.size, 0, none⟩), .pointer (some ⟨w.heap.size + 1, 0, none⟩)]) ∧ w' = (w.alloc (.cells #[.slice b n c] 22)).alloc (.cells #[.pointer a] 47) := by
  go_enter Try.func17, Try.ntmps17
  go_wp2_with fail
  go_ret
  exact ⟨rfl, rfl⟩
/-- What the walk hands over. -/
abbrev FR := Nat × Nat × Value × List UInt8
def encFR (x : FR) : Array Value := #[.int .i64 (x.1 : Int), .agg #[.int .i64 (x.2.1 : Int), x.2.2.1]]
/-- What is known of a frame that is handed over: its body is new. -/
def newFR (N : Nat) (pre : List FR) (x : FR) (W : World) : Prop := (pre.length ≤ x.1 ∧ x.1 + 9 + x.2.2.2.length ≤ 1048576 ∧ x.2.1 < 256) ∧ ∃ B, N ≤ B ∧ W.ownsRow B 5 1 x.2.2.1 x.2.2.2.length (bvs x.2.2.2) ∧ ∀ y ∈ pre, ∀ k, y.2.2.1.ownBlock = some k → k < B
def plainFR (x : FR) : Nat × Nat × List UInt8 := (x.1, x.2.1, x.2.2.2)
theorem begF_good (l : List UInt8) (h : (begF l).2.2.2 = 0) : 9 ≤ (begF l).2.2.1 ∧ (begF l).2.2.1 ≤ l.length ∧ (begF l).1 < 256 ∧ (begF l).2.1.length + 9 = (begF l).2.2.1 := by
  by_cases h9 : l.length < 9
  · rw [begF_few l h9] at h; exact absurd h (by decide)
  · obtain ⟨k, l0, l1, l2, l3, s0, s1, s2, s3, rest, rfl⟩ := nine l (by omega)
    revert h
    simp only [begF]
    have hk := k.toNat_lt
    split
    · intro h; exact absurd h (by decide)
    · split
      · intro h; exact absurd h (by decide)
      · split
        · intro h; exact absurd h (by decide)
        · intro _; simp; omega
theorem KeepB.cell {N : Nat} {Ex : List Nat} {A B : World} (h : KeepB N Ex A B) {p : Addr} {v : Value} (hp : p.block < N ∧ p.block ∉ Ex) (hc : A.cell? p = some v) : B.cell? p = some v := by
  unfold World.cell? at hc ⊢
  rw [h.block _ hp.1 hp.2]; exact hc
theorem KeepB.bytes {N : Nat} {Ex : List Nat} {A B : World} (h : KeepB N Ex A B) {a : Option Addr} {l : List UInt8} (hp : l ≠ [] → ∀ ad, a = some ad → ad.block < N ∧ ad.block ∉ Ex) (hc : BytesAt A a l) : BytesAt B a l := by
  intro i hi
  obtain ⟨b, off, rfl, c⟩ := hc i hi
  exact ⟨b, off, rfl, h.cell (p := ⟨b, off + i, none⟩) (hp (by rintro rfl; simp at hi) ⟨b, off, none⟩ rfl) c⟩
theorem own_lt {W : World} {B : Nat} {e : TypeId} {s n : Nat} {v : Value} {xs : List Value} (h : W.ownsRow B e s v n xs) : ∀ k, v.ownBlock = some k → k < W.heap.size := by
  intro k hk
  rcases h.2 with ⟨rfl, _⟩ | ⟨g, cap, cur, rfl, _, hg, _⟩
  · simp [Value.ownBlock] at hk
  · obtain rfl : g = k := by simpa [Value.ownBlock] using hk
    exact (Array.getElem?_eq_some_iff.1 hg).1
theorem BytesAt.drop {w : World} {a : Option Addr} {all : List UInt8} (h : BytesAt w a all) (k : Nat) : BytesAt w (Option.map (fun x => x.add k) a) (all.drop k) := by
  intro i hi
  obtain ⟨b, off, rfl, c⟩ := h (k + i) (by simp at hi; omega)
  exact ⟨b, off + k, by simp [Addr_add], by rw [show off + k + i = off + (k + i) by omega, c]; simp⟩
/-- How the walk ends. -/
def EndW (bw : Nat) (R : List (Nat × Nat × List UInt8) × Nat × Nat) (xs : List FR) (W2 W' : World) : Prop := xs.map plainFR = R.1 ∧ W' = if R.2.2 = 0 then W2 else W2.setCell ⟨bw, 0, none⟩ (.int .i64 (R.2.2 : Int))
def FirstW (R : List (Nat × Nat × List UInt8) × Nat × Nat) (pre : List FR) : Prop := pre.map plainFR <+: R.1
theorem own_shape {W : World} {B : Nat} {e : TypeId} {s n : Nat} {v : Value} {xs : List Value} (h : W.ownsRow B e s v n xs) : ∃ a c, v = .slice a n c := by
  rcases h.2 with ⟨rfl, rfl⟩ | ⟨g, cap, cur, rfl, _⟩
  · exact ⟨none, 0, rfl⟩
  · exact ⟨_, cap, rfl⟩
theorem own_len2 {W : World} {B : Nat} {e : TypeId} {v : Value} {n m : Nat} {xs : List Value} (h : W.ownsRow B e 1 v n xs) (hm : m = n) : W.ownsRow B e 1 v m xs := hm ▸ h
set_option maxRecDepth 100000 in
set_option maxHeartbeats 2000000 in
theorem walk_iter (n : Nat) (hn : 1 ≤ n) (l : List UInt8) (a : Option Addr) (cap : Nat) (w : World) (N : Nat) (Ex : List Nat) (Bb Bw bw : Nat) (tw : TypeId) (z : Int)
    (h : BytesAt w a l) (hcap : l.length ≤ cap) (hl : l.length ≤ 1048576) (hN : N ≤ w.heap.size)
    (hb : w.heap[Bb]? = some (.cells #[.slice a l.length cap] 22 (0, 0))) (hw : w.heap[Bw]? = some (.cells #[.pointer (some ⟨bw, 0, none⟩)] 47 (0, 0))) (hy : w.heap[bw]? = some (.cells #[.int .i64 z] tw (0, 0)))
    (hBb : Bb < N ∧ Bb ∉ Ex) (hBw : Bw < N ∧ Bw ∉ Ex) (hbw : bw < N ∧ bw ∉ Ex) (hbytes : l ≠ [] → ∀ ad, a = some ad → ad.block < N ∧ ad.block ∉ Ex) :
    Iter n Try.prog 27 #[.pointer (some ⟨Bb, 0, none⟩), .pointer (some ⟨Bw, 0, none⟩)] encFR (KeepB N Ex) (newFR N)
      (EndW bw (scanF (l.length + 1) l 0)) (FirstW (scanF (l.length + 1) l 0)) w := by
  obtain ⟨R, hR⟩ : ∃ R, scanF (l.length + 1) l 0 = R := ⟨_, rfl⟩
  rw [hR]
  intro ll J Jx W hW hJ hY h0
  refine callsIn_of_wp Try.func27 rfl trivial ?_ rfl
  simp only [Try.ntmps27, List.size_toArray, List.length_cons, List.length_nil, Nat.reduceAdd, Nat.reduceSub, Array.replicate_succ, Array.replicate_zero, List.push_toArray, List.append_toArray, List.nil_append, List.cons_append]
  refine (wpIn_wide (n := n)).2 (wp_scope_straight ((wpIn_wide (n := n)).1 ?_))
  gi_wp2
  refine wpIn_label ?_
  gi_wp2
  have HT : Hid (KeepB N Ex w W) := Lib.hid (KeepB.below (hW.mono hN))
  gi_loopw [4] (fun p wr => ∃ (pre : List FR) (at0 f : Nat), p = .int .i64 (at0 : Int) ∧ J pre wr ∧ pre.length ≤ at0 ∧ at0 ≤ l.length ∧ l.length - at0 < f ∧
      Hid (R = (pre.map plainFR ++ (scanF f (l.drop at0) at0).1, (scanF f (l.drop at0) at0).2)) ∧ Hid (KeepB N Ex w wr) ∧ (∀ y ∈ pre, ∀ k, y.2.2.1.ownBlock = some k → k < wr.heap.size))
    (fun p _ => l.length - (intOf p).toNat)
  case atStart =>
    exact ⟨[], 0, l.length + 1, rfl, h0, by simp, by omega, by omega, Lib.hid (by rw [← hR]; simp), HT, by simp⟩
  case round =>
    obtain ⟨pre, at0, f, rfl, hJs, hpl, hat, hf, HS, HK, hpre⟩ := hrel
    have c1 : wr.cell? ⟨Bb, 0, none⟩ = some (.slice a l.length cap) := HK.out.cell (p := ⟨Bb, 0, none⟩) hBb (cell_of_one hb)
    obtain ⟨f, rfl⟩ : ∃ g, f = g + 1 := ⟨f - 1, by omega⟩
    by_cases hend : at0 = l.length
    · have hlt : ¬ (at0 : Int) < (l.length : Int) := by omega
      subst hend
      have HF : Hid (R = (pre.map plainFR, l.length, 0)) := Lib.hid (by rw [HS.out, List.drop_length]; simp [scanF])
      gi_wp2
      go_end0
      exact ⟨⟨_, rfl⟩, .inl ⟨pre, wr, hJs, by rw [HF.out]; exact ⟨rfl, rfl⟩⟩⟩
    · have hlt : (at0 : Int) < (l.length : Int) := by omega
      have hlen : (l.drop at0).length = l.length - at0 := by simp
      have HLd : Hid ((l.drop at0).length = l.length - at0) := Lib.hid hlen
      have HBy : Hid (BytesAt wr (Option.map (fun x => x.add at0) a) (l.drop at0)) := Lib.hid ((HK.out.bytes hbytes h).drop at0)
      gi_wp2
      refine ⟨trivial, ?_⟩
      rw [← HLd.out]
      refine (callsIn_wide.2 (frame_begin (l.drop at0) _ (cap - at0) wr HBy.out (by simp; omega) (by simp; omega))).mono ?_
      rintro e wN ⟨v, rfl, hown, hbN⟩
      have HO := Lib.hid hown
      have HN := Lib.hid hbN
      obtain ⟨va, vc, rfl⟩ := own_shape hown
      obtain ⟨vn, hvn⟩ : ∃ vn, (begF (l.drop at0)).2.1.length = vn := ⟨_, rfl⟩
      rw [hvn] at HO ⊢
      have HS1 := HS.out
      rw [scanF, if_neg (by rw [hlen]; omega)] at HS1
      have hgood := begF_good (l.drop at0)
      have HVN := Lib.hid hvn
      clear hvn
      obtain ⟨q, hq⟩ : ∃ q, begF (l.drop at0) = q := ⟨_, rfl⟩
      have HQ := Lib.hid hq
      rw [hq] at HO HS1 HVN hgood ⊢
      clear hown hbN hq
      obtain ⟨k, body, m, err⟩ := q
      dsimp only at HO HS1 HVN hgood ⊢
      have KN : Hid (KeepB N Ex w wN) := Lib.hid (HK.out.trans (KeepB.below (HN.out.mono (Nat.le_trans hN HK.out.size))))
      have e1 : wN.heap[bw]? = some (.cells #[.int .i64 z] tw (0, 0)) := (KN.out.block _ hbw.1 hbw.2).trans hy
      have hbwN : bw < wN.heap.size := (Array.getElem?_eq_some_iff.1 e1).1
      have c2 : wN.cell? ⟨Bw, 0, none⟩ = some (.pointer (some ⟨bw, 0, none⟩)) := KN.out.cell (p := ⟨Bw, 0, none⟩) hBw (cell_of_one hw)
      have c3 : wN.cell? ⟨bw, 0, none⟩ = some (.int .i64 z) := cell_of_one e1
      have f3 : wN.frozen? ⟨bw, 0, none⟩ = false := frozen_of_row _ _ _ _ _ e1
      have hbA : Below wN.heap.size wN (wN.alloc (.cells #[.int .i64 (k : Int), .slice va vn vc] 36)) := (Below.refl _ wN).alloc (Nat.le_refl _) _
      have a2 : (wN.alloc (.cells #[.int .i64 (k : Int), .slice va vn vc] 36)).cell? ⟨Bw, 0, none⟩ = some (.pointer (some ⟨bw, 0, none⟩)) := (hbA.cell (p := ⟨Bw, 0, none⟩) (block_lt_of_cell c2)).trans c2
      have a3 : (wN.alloc (.cells #[.int .i64 (k : Int), .slice va vn vc] 36)).cell? ⟨bw, 0, none⟩ = some (.int .i64 z) := (hbA.cell (p := ⟨bw, 0, none⟩) hbwN).trans c3
      have e3 : (wN.alloc (.cells #[.int .i64 (k : Int), .slice va vn vc] 36)).heap[bw]? = some (.cells #[.int .i64 z] tw (0, 0)) := (hbA.block _ hbwN).trans e1
      have af : (wN.alloc (.cells #[.int .i64 (k : Int), .slice va vn vc] 36)).frozen? ⟨bw, 0, none⟩ = false := frozen_of_row _ _ _ _ _ e3
      have KA : Hid (KeepB N Ex w (wN.alloc (.cells #[.int .i64 (k : Int), .slice va vn vc] 36))) := Lib.hid (KN.out.trans (KeepB.below (hbA.mono (Nat.le_trans hN KN.out.size))))
      obtain ⟨a0, a1⟩ := box2 (World.alloc_heap_new wN (.cells #[.int .i64 (k : Int), .slice va vn vc] 36))
      by_cases he : err = 0
      · subst he
        obtain ⟨g9, gl, gk, gb⟩ := hgood rfl
        rw [show (((0:Nat):Int)) = 0 from rfl]
        rw [if_neg (by simp)] at HS1
        have HS2 := Lib.hid HS1
        clear HS1 hgood HS
        have HX : Hid (newFR N pre (at0, k, .slice va vn vc, body) (wN.alloc (.cells #[.int .i64 (k : Int), .slice va vn vc] 36))) := Lib.hid ⟨⟨hpl, by have := HVN.out; simp at gl ⊢; omega, gk⟩, wr.heap.size, Nat.le_trans hN HK.out.size, (own_len2 HO.out HVN.out).alloc _, hpre⟩
        have HJN : Hid (J pre (wN.alloc (.cells #[.int .i64 (k : Int), .slice va vn vc] 36))) := Lib.hid (hJ _ _ _ hJs (HN.out.alloc HN.out.size _))
        obtain ⟨fn, tmps, assign, body', hyy, hRR⟩ := hY pre (at0, k, .slice va vn vc, body) _ HJN.out HX.out
        simp only [encFR] at hyy
        clear a2 a3 af c2 c3 f3
        gi_wp2
        refine hRR.mono ?_
        rintro e W' (⟨rfl, hJ', hk⟩ | ⟨rfl, hJx'⟩)
        · have hml : at0 + m ≤ l.length := by rw [hlen] at gl; omega
          gi_wp2
          refine ⟨⟨pre ++ [(at0, k, .slice va vn vc, body)], at0 + m, f, by simp, hJ', by simp; omega, hml, by omega, Lib.hid ?_, Lib.hid (KA.out.trans hk), ?_⟩, ?_⟩
          · rw [HS2.out, List.drop_drop]; simp [plainFR]
          · intro y hy' kk hkk
            have hsz := hk.size
            simp only [List.mem_append, List.mem_singleton] at hy'
            rcases hy' with hy' | rfl
            · have h1 := hpre y hy' kk hkk
              have h2 := HN.out.size
              have h3 := hbA.size
              omega
            · have h1 := own_lt HO.out kk hkk
              have h3 := hbA.size
              omega
          · have e1 : (intOf (Value.int .i64 ((at0 : Int) + (m : Int)))).toNat = at0 + m := by simp [intOf]; omega
            have e2 : (intOf (Value.int .i64 (at0 : Int))).toNat = at0 := by simp [intOf]
            rw [e1, e2]; omega
        · gi_wp2
          try rw [Exit.noGoto_ret]
          refine bodyPost_ret (results_none rfl _ _ _) rfl ?_
          refine ⟨⟨_, rfl⟩, .inr ⟨pre ++ [(at0, k, .slice va vn vc, body)], ?_, hJx'⟩⟩
          unfold FirstW
          rw [HS2.out]
          exact ⟨(scanF f ((l.drop at0).drop m) (at0 + m)).1, by simp [plainFR]⟩
      · rw [if_pos (by simpa using he)] at HS1
        have HS2 := Lib.hid HS1
        clear HS1 hgood HS
        have hcm : (wN.setCell ⟨bw, 0, none⟩ (.int .i64 (err : Int))).alloc (.cells #[.int .i64 (k : Int), .slice va vn vc] 36) = (wN.alloc (.cells #[.int .i64 (k : Int), .slice va vn vc] 36)).setCell ⟨bw, 0, none⟩ (.int .i64 (err : Int)) := by
          exact (World.setCell_alloc_past _ _ _ _ hbwN).symm
        have HCM := Lib.hid hcm
        clear hcm
        have HJA : Hid (J pre (wN.alloc (.cells #[.int .i64 (k : Int), .slice va vn vc] 36))) := Lib.hid (hJ _ _ _ hJs (HN.out.alloc HN.out.size _))
        gi_wp2
        go_end0
        refine ⟨⟨_, rfl⟩, .inl ⟨pre, _, HJA.out, ?_⟩⟩
        rw [HS2.out, HCM.out]
        exact ⟨by simp, by rw [if_neg (by simpa using he)]⟩
end Go.Proofs.Ytpbjhfajekfjeaa

