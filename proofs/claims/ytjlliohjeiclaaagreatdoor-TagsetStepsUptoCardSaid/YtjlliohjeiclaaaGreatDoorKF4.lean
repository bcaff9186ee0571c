/- Words, contracts and walks that the proof stands on (StbT Mem2 Over KyW Chn KyX Inv Rel). -/
import Derived.BigQuiet
import Derived.Deep.QuietTactic
import Derived.Deep.RegionHeld
import Derived.Deep.RegionHeld3
import Derived.Lib.ConvBytes
import Derived.OwnWalk
import Derived.RegionTactic
import Derived.Test.YtjlliohjeiclaaaGreatDoorKF1
import Derived.Test.YtjlliohjeiclaaaGreatDoorKF2
import Derived.WalkLawsBesides
namespace Go.Proofs.YtjlliohjeiclaaaGreatDoor
open Go.RowKit St Pm Kn
theorem full_snoc {bs : Nat} (hb : 0 < bs) {X : List Ev} (hX : X.length ≤ bs) : ∀ (t : Nat) (T : List Ev), T.length = t * bs → full bs (T ++ X) = full bs T ++ sortV X
 | 0, T, h => by
  obtain rfl : T = [] := List.length_eq_zero_iff.1 (by rw [h, Nat.zero_mul])
  rw [List.nil_append, full_nil, List.nil_append, full_last hX]
 | t + 1, T, h => by
  have hl : T.length = t * bs + bs := by rw [h, Nat.succ_mul]
  obtain ⟨Y, Z, rfl, hY, hZ⟩ : ∃ Y Z, T = Y ++ Z ∧ Y.length = bs ∧ Z.length = t * bs := ⟨T.take bs, T.drop bs, (List.take_append_drop _ _).symm, by rw [List.length_take]; omega, by rw [List.length_drop]; omega⟩
  rw [List.append_assoc, full_step (Z ++ X) hY hb, full_step Z hY hb, full_snoc hb hX t Z hZ, List.append_assoc]
theorem sortV_two {X Y : List Ev} (h : (X ++ Y).Nodup) : sortV (sortV X ++ sortV Y) = sortV (X ++ Y) := by
 have n := List.nodup_append.1 h
 refine sortV_perm (List.nodup_append.2 ⟨up_nodup (sortV_up n.1), up_nodup (sortV_up n.2.1), fun x hx y hy => n.2.2 x (sortV_mem.1 hx) y (sortV_mem.1 hy)⟩) h fun x => ?_
 rw [List.mem_append, List.mem_append, sortV_mem, sortV_mem]
structure Stb (L : List Ev) : Prop where
 nd : L.Nodup
 cm : L.Pairwise fun y x => evC x y < 0 ↔ RE x y
theorem Stb.left {X Y : List Ev} (h : Stb (X ++ Y)) : Stb X := ⟨(List.nodup_append.1 h.nd).1, (List.pairwise_append.1 h.cm).1⟩
theorem Stb.right {X Y : List Ev} (h : Stb (X ++ Y)) : Stb Y := ⟨(List.nodup_append.1 h.nd).2.1, (List.pairwise_append.1 h.cm).2.1⟩
theorem Stb.mra {X Y Q S : List Ev} {a m b N : Nat} (h : Stb (X ++ Y)) (hN : (Q ++ (sortV X ++ (sortV Y ++ S))).length = N) (hX : 0 < X.length) (hY : 0 < Y.length) (ea : Q.length = a) (em : a + X.length = m) (eb : m + Y.length = b) : MrA Q (sortV X) (sortV Y) S a m b N := by
 have n := List.nodup_append.1 h.nd
 have c := List.pairwise_append.1 h.cm
 exact ⟨hN, by rw [sortV_length]; exact hX, by rw [sortV_length]; exact hY, sortV_up n.1, sortV_up n.2.1, List.nodup_append.2 ⟨up_nodup (sortV_up n.1), up_nodup (sortV_up n.2.1), fun x hx y hy => n.2.2 x (sortV_mem.1 hx) y (sortV_mem.1 hy)⟩,
  fun x hx y hy => c.2.2 x (sortV_mem.1 hx) y (sortV_mem.1 hy), ea, by rw [sortV_length]; exact em, by rw [sortV_length]; exact eb⟩
theorem cut_at (L : List Ev) (a n : Nat) (h : a + n ≤ L.length) : ∃ T X R, L = T ++ (X ++ R) ∧ T.length = a ∧ X.length = n ∧ L.take a = T ∧ L.drop a = X ++ R ∧ L.take (a + n) = T ++ X ∧ L.drop (a + n) = R := by
 refine ⟨L.take a, (L.drop a).take n, (L.drop a).drop n, by rw [List.take_append_drop, List.take_append_drop], by rw [List.length_take]; omega, by rw [List.length_take, List.length_drop]; omega, rfl, (List.take_append_drop _ _).symm, List.take_add, by rw [List.drop_drop]⟩
def blkL (bs : Nat) (L : List Ev) (a : Nat) : List Ev := full bs (L.take a) ++ L.drop a
theorem blk_zero (bs : Nat) (L : List Ev) : blkL bs L 0 = L := by unfold blkL; rw [List.take_zero, full_nil, List.drop_zero, List.nil_append]
def mrgL (bs : Nat) (L : List Ev) (a : Nat) : List Ev := full (2 * bs) (L.take a) ++ full bs (L.drop a)
theorem mrg_zero (bs : Nat) (L : List Ev) : mrgL bs L 0 = full bs L := by unfold mrgL; rw [List.take_zero, full_nil, List.drop_zero, List.nil_append]
end Go.Proofs.YtjlliohjeiclaaaGreatDoor
namespace Go.Proofs.YtjlliohjeiclaaaGreatDoor
open Go.RowKit
theorem own_form {w : World} {base size n : Nat} {e : TypeId} {v : Value} {xs : List Value} (h : w.ownsRow base e size v n xs) (hn : 0 < n) : ∃ g cap, v = .slice (some ⟨g, 0, none⟩) n cap ∧ base ≤ g ∧ g < w.heap.size ∧ n ≤ cap ∧ cap ≤ maxLen := by
 rcases h.2 with ⟨_, h0⟩ | ⟨g, cap', cur, rfl, h1, h2, h3, h4, _⟩
 · omega
 · exact ⟨g, cap', rfl, h1, (h.lt g rfl).2, h3, h4⟩
theorem bvs_get (l : List UInt8) (i : Nat) (h : i < l.length) : (bvs l)[i]? = some (.int .u8 (l[i].toNat : Int)) := by simp [bvs, h]
theorem bvs_set (l : List UInt8) (i : Nat) (c : UInt8) : (bvs l).set i (.int .u8 (c.toNat : Int)) = bvs (l.set i c) := by simp [bvs, List.map_set]
theorem own_byte {w : World} {base n g cap : Nat} {e : TypeId} {l : List UInt8} (h : w.ownsRow base e 1 (.slice (some ⟨g, 0, none⟩) n cap) n (bvs l)) (i : Nat) (hi : i < l.length) :
 w.cell? ⟨g, i, none⟩ = some (.int .u8 (l[i].toNat : Int)) ∧ w.frozen? ⟨g, i, none⟩ = false := by
 obtain ⟨g', hg, _, hc, hf, _⟩ := own_cell h i _ (bvs_get l i hi)
 cases hg
 exact ⟨hc, hf i⟩
theorem own_put {w : World} {base n g cap : Nat} {e : TypeId} {l : List UInt8} (h : w.ownsRow base e 1 (.slice (some ⟨g, 0, none⟩) n cap) n (bvs l)) (i : Nat) (c : UInt8) (u : Int) (hu : u = (c.toNat : Int)) :
 (w.setCell ⟨g, i, none⟩ (.int .u8 u)).ownsRow base e 1 (.slice (some ⟨g, 0, none⟩) n cap) n (bvs (l.set i c)) := by
 subst hu
 rw [← bvs_set]; exact own_set h i _
theorem BytesAt.fresh (w : World) (t : TypeId) (fr : Nat × Nat) (l : List UInt8) (vs : List Value) (h : vs = l.map fun c => Value.int .u8 (c.toNat : Int)) :
 BytesAt (w.alloc (.cells vs.toArray t fr)) (some ⟨w.heap.size, 0, none⟩) l := by
 intro i hi
 refine ⟨w.heap.size, 0, rfl, ?_⟩
 rw [Nat.zero_add, cell_new, h]
 simp [hi]
theorem src_one {P : Program} {tx e' : TypeId} (hk : P.underlying tx = some (.slice e')) (w : World) (t : TypeId) (c : UInt8) (u : Int) (hu : u = (c.toNat : Int)) :
 Src P 1 tx (.slice (some ⟨w.heap.size, 0, none⟩) 1 1) 1 (bvs [c]) (w.alloc (.cells #[.int .u8 u] t)) := by
 subst hu
 exact (BytesAt.fresh w t (0, 0) [c] [_] rfl).src hk 1
def ElemT (P : Program) (t e : TypeId) (z : Value) (size bytes : Nat) : Prop :=
 P.underlying t = some (.slice e) ∧ ∃ i, P.info? e = some i ∧ i.zero = some z ∧ i.size = size ∧ i.bytes = bytes ∧ z.cells.size = size
theorem ElemT.mk {P : Program} {t e : TypeId} {z : Value} {size bytes : Nat} (ht : P.underlying t = some (.slice e)) (h : (P.info? e).map (fun i => (i.zero, i.size, i.bytes)) = some (some z, size, bytes)) (hz : z.cells.size = size) : ElemT P t e z size bytes := by
 obtain ⟨i, h1, h2, h3, h4⟩ := info_parts h
 exact ⟨ht, i, h1, h2, h3, h4, hz⟩
theorem below_of_grown {w w' : World} {base size n : Nat} {e : TypeId} {v : Value} {xs : List Value} (hown : w.ownsRow base e size v n xs) (hb : base ≤ w.heap.size) (hg : w.grownBy w' v.ownBlock) : Below base w w' :=
 (Below.refl _ _).grown hg hb fun k hk => (hown.lt k hk).1
theorem wpList_app {P : Program} {w : World} {ops : Array Oper} {rest : List Oper} {o : Oper} {a : Act} {Q : Exit → Act → World → Prop} (hgd : o.guard = none) (s x : Operand) (t tx : TypeId)
 (ho : o.op = .call { callee := .builtin .append, args := #[s, x], argTypes := #[t, tx] })
 (base : Nat) (e : TypeId) (z : Value) (size bytes : Nat) (ht : ElemT P t e z size bytes)
 (v : Value) (n : Nat) (xs : List Value) (hv : a.eval s = v) (hown : w.ownsRow base e size v n xs)
 (xv : Value) (m : Nat) (news : List Value) (hx : a.eval x = xv) (hs : Src P size tx xv m news w)
 (h63 : n + m ≤ 4611686018427387904) (hbytes : (n + m) * bytes ≤ 140737488355328) (hbase : base ≤ w.heap.size)
 (h : ∀ v' w', w'.ownsRow base e size v' (n + m) (xs ++ news) → w.grownBy w' v.ownBlock → Below base w w' → (v'.ownBlock = v.ownBlock ∨ v'.ownBlock = some w.heap.size) → wpList P ops Q rest (a.put o.dst v') w') : wpList P ops Q (o :: rest) a w := by
 obtain ⟨h1, i, h2, h3, h4, h5, h6⟩ := ht
 exact wpList_append_src w hgd s x t tx ho base e i z size bytes h1 h2 h3 h4 h5 h6 v n xs hv hown xv m news hx hs (by unfold maxLen; omega) hbytes hbase
  fun v' w' g1 g2 g3 => h v' w' g1 g2 (below_of_grown hown hbase g2) g3
theorem wpList_appb {P : Program} {w : World} {ops : Array Oper} {rest : List Oper} {o : Oper} {a : Act} {Q : Exit → Act → World → Prop} (hgd : o.guard = none) (s x : Operand) (t tx : TypeId)
 (ho : o.op = .call { callee := .builtin .append, args := #[s, x], argTypes := #[t, tx] })
 (base : Nat) (e : TypeId) (ht : ElemT P t e (.int .u8 0) 1 1)
 (v : Value) (l : List UInt8) (hv : a.eval s = v) (hown : w.ownsRow base e 1 v l.length (bvs l))
 (xv : Value) (m : List UInt8) (hx : a.eval x = xv) (hs : Src P 1 tx xv m.length (bvs m) w)
 (hlen : l.length + m.length ≤ 70368744177664) (hbase : base ≤ w.heap.size)
 (h : ∀ v' w', w'.ownsRow base e 1 v' (l ++ m).length (bvs (l ++ m)) → w.grownBy w' v.ownBlock → Below base w w' → (v'.ownBlock = v.ownBlock ∨ v'.ownBlock = some w.heap.size) → wpList P ops Q rest (a.put o.dst v') w') : wpList P ops Q (o :: rest) a w :=
 wpList_app hgd s x t tx ho base e (.int .u8 0) 1 1 ht v l.length (bvs l) hv hown xv m.length (bvs m) hx hs (by omega) (by omega) hbase
  fun v' w' g1 g2 g3 g4 => h v' w' (by rw [List.length_append, bvs_append]; exact g1) g2 g3 g4
theorem wpList_mkn {P : Program} {w : World} {ops : Array Oper} {rest : List Oper} {o : Oper} {a : Act} {Q : Exit → Act → World → Prop} (hg : o.guard = none) (l c : Operand) (t : TypeId) (hop : o.op = Op.makeSlice t l c)
 (e : TypeId) (z : Value) (size bytes : Nat) (ht : ElemT P t e z size bytes) (kl kc : IntKind) (L C : Int) (n : Nat) (hl : a.eval l = .int kl L) (hc : a.eval c = .int kc C) (hL : L = (n : Int)) (hC : C = (n : Int)) (b2 : bytes * n ≤ 281474976710656) (b3 : n ≤ 4611686018427387904)
 (hK : ∀ w', w'.ownsRow w.heap.size e size (.slice (some ⟨w.heap.size, 0, none⟩) n n) n (madeCells z.cells (n * size)).toList → Below w.heap.size w w' → wpList P ops Q rest (a.put o.dst (.slice (some ⟨w.heap.size, 0, none⟩) n n)) w') :
 wpList P ops Q (o :: rest) a w := by
 obtain ⟨h1, i, h2, h3, h4, h5, _⟩ := ht
 exact wpList_make_full w hg l c t hop w.heap.size e i z size h1 h2 h3 h4 kl kc L C n hl hc hL hC (by rw [h5]; exact b2) (by unfold maxLen; omega) (Nat.le_refl _)
  fun w' g1 g2 => hK w' g1 ((Below.refl _ _).grown g2 (Nat.le_refl _) (fun k h => by cases h))
end Go.Proofs.YtjlliohjeiclaaaGreatDoor
namespace Go.Proofs.YtjlliohjeiclaaaGreatDoor
open Go.RowKit
section
variable {P : Program} {ops : Array Oper} {Q : Exit → Act → World → Prop} {md : Region.Mode} {S S' : World → Prop}
theorem wpAnyH_stronger (h : ∀ w, S' w → S w) : ∀ (fuel : Nat) (listed : Array Bool) (a : Act) (w : World), wpAnyH P md ops Q S' fuel listed a w → wpAnyH P md ops Q S fuel listed a w
 | 0, _, _, _, H => H
 | fuel + 1, _, _, _, H => ⟨H.1, fun i hi => wpOp_mono (fun a' w' h' => ⟨h _ h'.1, wpAnyH_stronger h fuel _ a' w' h'.2⟩) (H.2 i hi)⟩
theorem wpAnyH_now {W w1 : World} (hb : Below W.heap.size W w1) {fuel : Nat} {listed : Array Bool} {a : Act}
 (h : wpAnyH P md ops Q (fun w' => Below w1.heap.size w1 w') fuel listed a w1) : wpAnyH P md ops Q (fun w' => Below W.heap.size W w') fuel listed a w1 :=
 wpAnyH_stronger (fun _ h' => hb.trans (h'.mono hb.size)) _ _ _ _ h
theorem wpAnyH_madeK {W w1 : World} {o : Obj} {B : Nat} (hS : Below B W w1) (hB : B ≤ w1.heap.size) {fuel : Nat} {listed : Array Bool} {a : Act}
 (h : ∀ w2, w2 = w1.alloc o → Below B W w2 → wpAnyH P md ops Q (fun w' => Below B W w') fuel listed a w2) : wpAnyH P md ops Q (fun w' => Below B W w') fuel listed a (w1.alloc o) :=
 h _ rfl (hS.alloc hB o)
end
end Go.Proofs.YtjlliohjeiclaaaGreatDoor
namespace Go.Proofs.YtjlliohjeiclaaaGreatDoor
open Go.RowKit St
theorem conv_to_bytes {P : Program} (w : World) (src dst e : TypeId) (s : ByteArray) (hs : P.underlying src = some .string) (hd : P.underlying dst = some (.slice e)) (he : P.underlying e = some (.int .u8)) :
 ∃ cap w', (convert src dst (.string s)).run P w = .ok (.slice (some ⟨w.heap.size, 0, none⟩) s.size cap) w' ∧ BytesAt w' (some ⟨w.heap.size, 0, none⟩) s.data.toList ∧ Below w.heap.size w w' ∧ w'.heap.size = w.heap.size + 1 := by
 refine ⟨_, _, Go.Lib.run_convert_string_bytes w src dst e s hs hd he, fun i hi => ⟨_, 0, rfl, ?_⟩, ?_, Go.Lib.bytesWorld_size w e s⟩
 · rw [Nat.zero_add, Go.Lib.bytesWorld_cell w e s i (by simpa using hi)]
   rw [List.getD_eq_getElem?_getD, List.getElem?_eq_getElem hi]
   rfl
 · exact ⟨rfl, rfl, rfl, by rw [Go.Lib.bytesWorld_size]; omega, fun k hk => Go.Lib.bytesWorld_at_old w e s k hk⟩
theorem numC_lt {a b : Int} (h : a < b) : numC a b = -1 := by unfold numC; rw [if_pos h]
theorem numC_gt {a b : Int} (h : b < a) : numC a b = 1 := by unfold numC; rw [if_neg (by omega), if_pos h]
theorem numC_eq {a b : Int} (h : a = b) : numC a b = 0 := by unfold numC; rw [if_neg (by omega), if_neg (by omega)]
def okByte (c : UInt8) : Bool := decide (97 ≤ c.toNat) && decide (c.toNat ≤ 122)
theorem okLabel_all (l : List UInt8) : okLabel l = (l.all okByte && (decide (1 ≤ l.length) && decide (l.length ≤ 12))) := by
 unfold okLabel okByte
 rw [Bool.and_assoc]
theorem all_bad {l : List UInt8} {k : Nat} (h : k < l.length) (hb : okByte l[k] = false) : okLabel l = false := by
 rw [okLabel_all]
 have : l.all okByte = false := by
  rw [List.all_eq_false]
  exact ⟨l[k], List.getElem_mem h, by simp [hb]⟩
 rw [this]; rfl
theorem all_step {l : List UInt8} {k : Nat} (h : k < l.length) (ha : (l.take k).all okByte = true) (hb : okByte l[k] = true) : (l.take (k + 1)).all okByte = true := by
 rw [List.take_succ_eq_append_getElem h, List.all_append, ha]
 simp [hb]
theorem all_end {l : List UInt8} (ha : (l.take l.length).all okByte = true) : okLabel l = (decide (1 ≤ l.length) && decide (l.length ≤ 12)) := by
 rw [List.take_length] at ha
 rw [okLabel_all, ha]; rfl
theorem dlen (s : ByteArray) : s.data.toList.length = s.size := by simp
set_option maxHeartbeats 1000000 in
theorem key_Label (s : ByteArray) (w : World) (hs : s.size ≤ 9223372036854775807) : Calls Tryz.prog 188 #[.string s] w fun e w' => e = .returned (.bool (okLabel s.data.toList)) ∧ Below w.heap.size w w' := by
 obtain ⟨cap, w1, hcv, hby, hb, hz⟩ := conv_to_bytes (P := Tryz.prog) w 9 113 5 s Tryz.underlying9 Tryz.underlying113 Tryz.underlying5
 obtain ⟨l, hl⟩ : ∃ l, s.data.toList = l := ⟨_, rfl⟩
 have hn : l.length = s.size := by rw [← hl]; exact dlen s
 rw [hl] at hby ⊢
 have HB := Lib.hid hb
 have HY := Lib.hid hby
 have HN := Lib.hid hn
 clear hb hby hz
 go_enter Tryz.func188, Tryz.ntmps188
 go_wp2
 clear hcv
 go_loop [8] (fun i => ∃ k : Nat, k ≤ s.size ∧ i = .int .i64 (k : Int) ∧ Hid ((l.take k).all okByte = true)) (fun i => s.size - (intOf i).toNat)
 case atStart => exact ⟨0, Nat.zero_le _, rfl, Lib.hid rfl⟩
 case round =>
  obtain ⟨k, hk, rfl, HA⟩ := hrel
  by_cases hlt : k < s.size
  · have hkl : k < l.length := by omega
    have hc := (HY.out k hkl)
    obtain ⟨b, off, he, hc⟩ := hc
    cases he
    rw [Nat.zero_add] at hc
    have hbt := l[k].toNat_lt
    have F1 := Lib.hid (fun h => all_bad hkl h)
    have F2 := Lib.hid (fun h => all_step hkl HA.out h)
    generalize hcc : l[k] = c at *
    have F3 : Hid (okByte c = (decide (97 ≤ c.toNat) && decide (c.toNat ≤ 122))) := Lib.hid rfl
    clear hcc hkl HA
    by_cases h1 : c.toNat < 97
    · go_wp2
      go_ret
      rw [F1.out (by rw [F3.out, decide_eq_false (by omega)]; rfl)]
      exact ⟨rfl, HB.out⟩
    · by_cases h2 : 122 < c.toNat
      · go_wp2
        go_ret
        rw [F1.out (by rw [F3.out, decide_eq_false (show ¬ c.toNat ≤ 122 by omega)]; simp)]
        exact ⟨rfl, HB.out⟩
      · have H := F2.out (by rw [F3.out, decide_eq_true (show 97 ≤ c.toNat by omega), decide_eq_true (show c.toNat ≤ 122 by omega)]; rfl)
        have H := Lib.hid H
        go_wp2
        refine ⟨⟨k + 1, by omega, by go_num, H⟩, by simp [intOf]; omega⟩
  · obtain rfl : k = s.size := by omega
    have E : Hid (okLabel l = (decide (1 ≤ s.size) && decide (s.size ≤ 12))) := Lib.hid (by rw [← hn]; exact all_end (by rw [hn]; exact HA.out))
    clear HA
    by_cases h1 : 1 ≤ s.size
    · go_wp2
      go_ret
      rw [E.out, decide_eq_true h1]
      exact ⟨congrArg (fun b => Ending.returned (.bool b)) (by simp; omega), HB.out⟩
    · go_wp2
      go_ret
      rw [E.out, decide_eq_false h1]
      exact ⟨rfl, HB.out⟩
set_option maxHeartbeats 1000000 in
theorem ref5_Label (s : ByteArray) (w : World) (hs : s.size ≤ 9223372036854775807) : Calls Tryz.prog 177 #[.string s] w fun e w' => e = .returned (.bool (okLabel s.data.toList)) ∧ w = w' := by
 obtain ⟨l, hl⟩ : ∃ l, s.data.toList = l := ⟨_, rfl⟩
 have hn : l.length = s.size := by rw [← hl]; exact dlen s
 have HL := Lib.hid hl
 rw [hl]
 clear hl
 go_enter Tryz.func177, Tryz.ntmps177
 go_wp2
 go_loop [3] (fun i => ∃ k : Nat, k ≤ s.size ∧ i = .int .i64 (k : Int) ∧ Hid ((l.take k).all okByte = true)) (fun i => s.size - (intOf i).toNat)
 case atStart => exact ⟨0, Nat.zero_le _, rfl, Lib.hid rfl⟩
 case round =>
  obtain ⟨k, hk, rfl, HA⟩ := hrel
  by_cases hlt : k < s.size
  · have hkl : k < l.length := by omega
    have hc : s[k] = l[k] := by
     have := HL.out
     subst this
     rfl
    have hbt := l[k].toNat_lt
    have F1 := Lib.hid (fun h => all_bad hkl h)
    have F2 := Lib.hid (fun h => all_step hkl HA.out h)
    generalize hcc : l[k] = c at *
    have F3 : Hid (okByte c = (decide (97 ≤ c.toNat) && decide (c.toNat ≤ 122))) := Lib.hid rfl
    clear hcc hkl HA
    by_cases h1 : c.toNat < 97
    · go_wp2
      go_ret
      rw [F1.out (by rw [F3.out, decide_eq_false (by omega)]; rfl)]
      exact ⟨rfl, rfl⟩
    · by_cases h2 : 122 < c.toNat
      · go_wp2
        go_ret
        rw [F1.out (by rw [F3.out, decide_eq_false (show ¬ c.toNat ≤ 122 by omega)]; simp)]
        exact ⟨rfl, rfl⟩
      · have H := F2.out (by rw [F3.out, decide_eq_true (show 97 ≤ c.toNat by omega), decide_eq_true (show c.toNat ≤ 122 by omega)]; rfl)
        have H := Lib.hid H
        go_wp2
        refine ⟨⟨k + 1, by omega, by go_num, H⟩, by simp [intOf]; omega⟩
  · obtain rfl : k = s.size := by omega
    have E : Hid (okLabel l = (decide (1 ≤ s.size) && decide (s.size ≤ 12))) := Lib.hid (by rw [← hn]; exact all_end (by rw [hn]; exact HA.out))
    clear HA
    by_cases h1 : 1 ≤ s.size
    · go_wp2
      go_ret
      rw [E.out, decide_eq_true h1]
      exact ⟨congrArg (fun b => Ending.returned (.bool b)) (by simp; omega), rfl⟩
    · go_wp2
      go_ret
      rw [E.out, decide_eq_false h1]
      exact ⟨rfl, rfl⟩
theorem ref5_Text (s : ByteArray) (w : World) : Calls Tryz.prog 48 #[.string s] w fun e w' => e = .returned (.bool (decide (s.size ≤ 256))) ∧ w = w' := by
 go_enter Tryz.func48, Tryz.ntmps48
 go_wp2
 go_ret
 exact ⟨congrArg (fun b => Ending.returned (.bool b)) (by simp; omega), rfl⟩
theorem ref5_number (a b : Int) (w : World) : Calls Tryz.prog 204 #[.int .i64 a, .int .i64 b] w fun e w' => e = .returned (.int .i64 (numC a b)) ∧ w = w' := by
 have HN : Hid (∀ c, numC a b = c → c = numC a b) := Lib.hid fun _ h => h.symm
 go_enter Tryz.func204, Tryz.ntmps204
 by_cases h1 : a < b
 · go_wp2
   go_ret
   rw [← HN.out (-1) (numC_lt h1)]
   exact ⟨rfl, rfl⟩
 · by_cases h2 : b < a
   · go_wp2
     go_ret
     rw [← HN.out 1 (numC_gt h2)]
     exact ⟨rfl, rfl⟩
   · go_wp2
     go_ret
     rw [← HN.out 0 (numC_eq (by omega))]
     exact ⟨rfl, rfl⟩
theorem ref6_number (a b : Int) (w : World) : Calls Tryz.prog 97 #[.int .i64 a, .int .i64 b] w fun e w' => e = .returned (.int .i64 (numC a b)) ∧ w = w' := by
 have HN : Hid (∀ c, numC a b = c → c = numC a b) := Lib.hid fun _ h => h.symm
 go_enter Tryz.func97, Tryz.ntmps97
 by_cases h1 : a < b
 · go_wp2
   go_ret
   rw [← HN.out (-1) (numC_lt h1)]
   exact ⟨rfl, rfl⟩
 · by_cases h2 : b < a
   · go_wp2
     go_ret
     rw [← HN.out 1 (numC_gt h2)]
     exact ⟨rfl, rfl⟩
   · go_wp2
     go_ret
     rw [← HN.out 0 (numC_eq (by omega))]
     exact ⟨rfl, rfl⟩
end Go.Proofs.YtjlliohjeiclaaaGreatDoor
namespace Go.Proofs.YtjlliohjeiclaaaGreatDoor
open Go.RowKit
def Chain (ws : List World) (w : World) : Prop := ∀ W ∈ ws, Below W.heap.size W w
theorem Chain.one (w : World) : Chain [w] w := fun W hW => by
 obtain rfl := List.mem_singleton.1 hW
 exact Below.refl _ _
theorem Chain.push {ws : List World} {w w' : World} (h : Chain ws w) (hb : Below w.heap.size w w') : Chain (w' :: ws) w' := fun W hW => by
 rcases List.mem_cons.1 hW with rfl | hW
 · exact Below.refl _ _
 · exact (h W hW).trans (hb.mono (h W hW).size)
theorem Chain.only {ws : List World} {w w' : World} {g : Nat} (h : Chain ws w) (hg : w.grownBy w' (some g)) (hl : ∀ W ∈ ws, W.heap.size ≤ g) (_hlt : g < w.heap.size) : Chain ws w' := fun W hW =>
 (h W hW).trans ⟨hg.os, hg.tape, hg.output, hg.size, fun k hk => hg.block k (by have := (h W hW).size; omega) (fun e => by cases e; have := hl W hW; omega)⟩
theorem Chain.drop {W : World} {ws : List World} {w : World} (h : Chain (W :: ws) w) : Chain ws w := fun V hV => h V (List.mem_cons_of_mem _ hV)
theorem Chain.to {ws : List World} {w : World} (h : Chain ws w) (W : World) (hW : W ∈ ws) : Below W.heap.size W w := h W hW
theorem boxStays {W w' : World} {g : Nat} {o : Obj} (h : W.heap[g]? = some o) (hB : Below W.heap.size W w') : w'.heap[g]? = some o :=
 (hB.block g (Array.getElem?_eq_some_iff.1 h).1).trans h
theorem BytesAt.get {w : World} {l : List UInt8} {a : Option Addr} {i : Nat} (h : BytesAt w a l) (hi : i < l.length) : ∃ ad, a = some ad ∧ w.cell? (ad.add i) = some (.int .u8 (l[i].toNat : Int)) := by
 obtain ⟨b, off, rfl, hc⟩ := h i hi
 exact ⟨_, rfl, by rw [Addr.add_lit]; exact hc⟩
theorem BytesAt.take {w : World} {a : Option Addr} {l : List UInt8} (h : BytesAt w a l) (k : Nat) : BytesAt w a (l.take k) := by
 intro i hi
 have hi' : i < l.length := by simp at hi; omega
 obtain ⟨b, off, e, hc⟩ := h i hi'
 exact ⟨b, off, e, by simpa using hc⟩
end Go.Proofs.YtjlliohjeiclaaaGreatDoor
namespace Go.Proofs.YtjlliohjeiclaaaGreatDoor
open Go.RowKit St
open Go.Op (bytesLess)
theorem less_at {x y : List UInt8} {k : Nat} (h : x.take k = y.take k) (ha : k < x.length) (hb : k < y.length) (hlt : x[k] < y[k]) : bytesLess x y = true := by
 rw [← List.take_append_drop k x, ← List.take_append_drop k y]
 rw [bl_append _ _ _ _ (by simp; omega), h]
 rw [List.drop_eq_getElem_cons ha, List.drop_eq_getElem_cons hb]
 simp [bytesLess, hlt]
theorem txt_lt {a b : ByteArray} (h : bytesLess a.data.toList b.data.toList = true) : txtC a b = -1 := by
 unfold txtC Pm.klt
 rw [ByteArray.toList_eq, ByteArray.toList_eq, if_pos h]
theorem txt_gt {a b : ByteArray} (h : bytesLess b.data.toList a.data.toList = true) : txtC a b = 1 := by
 have h1 : Pm.klt b a = true := by unfold Pm.klt; rw [ByteArray.toList_eq, ByteArray.toList_eq]; exact h
 unfold txtC
 rw [if_neg (by rw [Pm.klt_asymm h1]; simp), if_pos h1]
theorem less_end {x y : List UInt8} {k : Nat} (h : x.take k = y.take k) (hx : k = x.length) (hy : k < y.length) : bytesLess x y = true := by
 subst hx
 rw [List.take_length] at h
 rw [← List.take_append_drop x.length y, ← h]
 have := bl_append x x [] (y.drop x.length) rfl
 rw [List.append_nil] at this
 rw [this, List.drop_eq_getElem_cons hy]
 simp [bytesLess]
theorem txt_eq {a b : ByteArray} (h : a.data.toList = b.data.toList) : txtC a b = 0 := by
 have : a = b := by
  obtain ⟨⟨x⟩⟩ := a
  obtain ⟨⟨y⟩⟩ := b
  simp only at h
  rw [h]
 subst this
 unfold txtC
 rw [Pm.klt_irrefl]
 simp
set_option maxHeartbeats 2000000 in
theorem ref5_Cmp (a b : ByteArray) (w : World) (ha : a.size ≤ 9223372036854775807) (hb : b.size ≤ 9223372036854775807) : Calls Tryz.prog 178 #[.string a, .string b] w fun e w' => e = .returned (.int .i64 (txtC a b)) ∧ Below w.heap.size w w' := by
 have hla := dlen a
 have hlb := dlen b
 obtain ⟨x, hx⟩ : ∃ x, a.data.toList = x := ⟨_, rfl⟩
 obtain ⟨y, hy⟩ : ∃ y, b.data.toList = y := ⟨_, rfl⟩
 have HX := Lib.hid hx
 have HY := Lib.hid hy
 have TL : Hid (bytesLess x y = true → txtC a b = -1) := Lib.hid fun h => txt_lt (by rw [hx, hy]; exact h)
 have TG : Hid (bytesLess y x = true → txtC a b = 1) := Lib.hid fun h => txt_gt (by rw [hx, hy]; exact h)
 have TE : Hid (x = y → txtC a b = 0) := Lib.hid fun h => txt_eq (by rw [hx, hy]; exact h)
 rw [hx] at hla
 rw [hy] at hlb
 clear hx hy
 go_enter Tryz.func178, Tryz.ntmps178
 go_wp2
 go_loopw [5] (fun i wr => ∃ k : Nat, k ≤ a.size ∧ k ≤ b.size ∧ i = .int .i64 (k : Int) ∧ Hid (x.take k = y.take k) ∧ Hid (Below w.heap.size w wr)) (fun i _ => a.size - (intOf i).toNat)
 case atStart => exact ⟨0, Nat.zero_le _, Nat.zero_le _, rfl, Lib.hid rfl, Lib.hid (Below.refl _ _)⟩
 case round =>
  obtain ⟨k, hk, hk', rfl, HT, HB⟩ := hrel
  have hd1 : decide ((k : Int) < (a.size : Int)) = decide (k < a.size) := by simp
  by_cases h1 : k < a.size
  · by_cases h2 : k < b.size
    · have h1' : (k : Int) < (a.size : Int) := by omega
      have h2' : (k : Int) < (b.size : Int) := by omega
      have ca : a[k] = x[k]'(by omega) := by have := HX.out; subst this; rfl
      have cb : b[k] = y[k]'(by omega) := by have := HY.out; subst this; rfl
      have F1 : Hid (x[k]'(by omega) < y[k]'(by omega) → txtC a b = -1) := Lib.hid (fun h => TL.out (less_at HT.out (by omega) (by omega) h))
      have F2 : Hid (y[k]'(by omega) < x[k]'(by omega) → txtC a b = 1) := Lib.hid (fun h => TG.out (less_at HT.out.symm (by omega) (by omega) h))
      have F3 : Hid (x[k]'(by omega) = y[k]'(by omega) → x.take (k + 1) = y.take (k + 1)) := Lib.hid (fun h => by rw [List.take_succ_eq_append_getElem (by omega), List.take_succ_eq_append_getElem (by omega), HT.out, h])
      generalize hcx : x[k]'(by omega) = c at *
      generalize hdy : y[k]'(by omega) = d at *
      have E1 : Hid (c < d ↔ c.toNat < d.toNat) := Lib.hid UInt8.lt_iff_toNat_lt
      have E2 : Hid (d < c ↔ d.toNat < c.toNat) := Lib.hid UInt8.lt_iff_toNat_lt
      have E3 : Hid (c.toNat = d.toNat → c = d) := Lib.hid UInt8.toNat_inj.1
      clear hcx hdy
      by_cases g1 : c.toNat < d.toNat
      · go_wp2
        go_quiet (fail)
        go_wp2
        go_ret
        rw [F1.out (E1.out.2 g1)]
        exact ⟨rfl, below_drews HB.out _⟩
      · by_cases g2 : d.toNat < c.toNat
        · go_wp2
          go_quiet (fail)
          go_wp2
          go_quiet (fail)
          go_wp2
          go_ret
          rw [F2.out (E2.out.2 g2)]
          exact ⟨rfl, below_drews (below_drews HB.out _) _⟩
        · have H := Lib.hid (F3.out (E3.out (by omega)))
          go_wp2
          go_quiet (fail)
          go_wp2
          go_quiet (fail)
          go_wp2
          refine ⟨⟨k + 1, by omega, by omega, by go_num, H, Lib.hid (below_drews HB.out _)⟩, by simp [intOf]; omega⟩
    · obtain rfl : k = b.size := by omega
      have E : Hid (txtC a b = 1) := Lib.hid (TG.out (less_end HT.out.symm (by omega) (by omega)))
      go_wp2_with fail
      refine (ref5_number _ _ _).mono ?_
      rintro e w' ⟨rfl, rfl⟩
      go_wp2
      go_ret
      rw [E.out, numC_gt (by omega)]
      exact ⟨rfl, HB.out⟩
  · obtain rfl : k = a.size := by omega
    have E : Hid (numC (a.size : Int) (b.size : Int) = txtC a b) := Lib.hid (by
     by_cases h2 : a.size < b.size
     · rw [numC_lt (by omega), TL.out (less_end HT.out (by omega) (by omega))]
     · have he : a.size = b.size := by omega
       rw [numC_eq (by omega), TE.out]
       have := HT.out
       rw [List.take_of_length_le (by omega), List.take_of_length_le (by omega)] at this
       exact this)
    go_wp2_with fail
    refine (ref5_number _ _ _).mono ?_
    rintro e w' ⟨rfl, rfl⟩
    go_wp2
    go_ret
    rw [E.out]
    exact ⟨rfl, HB.out⟩
theorem stp_Branch (r : Int) (l : ByteArray) (w : World) (hs : l.size ≤ 9223372036854775807) : Calls Tryz.prog 156 #[.agg #[.int .i64 r, .string l]] w fun e w' => e = .returned (.bool (okBr r l)) ∧ Below w.heap.size w w' := by
 have HV : Hid (okBr r l = (decide (0 ≤ r) && decide (r < 8) && okLabel l.data.toList)) := Lib.hid rfl
 go_enter Tryz.func156, Tryz.ntmps156
 by_cases h1 : 0 ≤ r
 · by_cases h2 : r < 8
   · go_wp2_with fail
     refine (key_Label l _ hs).mono ?_
     rintro e w' ⟨rfl, hb⟩
     go_wp2_with fail
     go_ret
     rw [HV.out, decide_eq_true (show 0 ≤ r by omega), decide_eq_true (show r < 8 by omega)]
     exact ⟨rfl, (below_new w _).trans (hb.mono (by simp))⟩
   · go_wp2_with fail
     go_ret
     rw [HV.out, decide_eq_true (show 0 ≤ r by omega), decide_eq_false (show ¬ (r < 8) by omega)]
     exact ⟨rfl, below_new _ _⟩
 · go_wp2_with fail
   go_ret
   rw [HV.out, decide_eq_false (show ¬ (0 ≤ r) by omega)]
   exact ⟨rfl, below_new _ _⟩
theorem stp_Name (r : Int) (l : ByteArray) (n : Int) (w : World) (hs : l.size ≤ 9223372036854775807) : Calls Tryz.prog 122 #[.agg #[.int .i64 r, .string l, .int .i64 n]] w fun e w' => e = .returned (.bool (okNm r l n)) ∧ Below w.heap.size w w' := by
 have HV : Hid (okNm r l n = (okBr r l && decide (1 ≤ n) && decide (n ≤ 4611686018427387904))) := Lib.hid rfl
 go_enter Tryz.func122, Tryz.ntmps122
 go_wp2_with fail
 refine (stp_Branch r l _ hs).mono ?_
 rintro e w' ⟨rfl, hb⟩
 have HB : Hid (Below w.heap.size w w') := Lib.hid ((below_new w _).trans (hb.mono (by simp)))
 have k0 := cell_of_row _ _ 2 _ _ _ (boxStays (heap_alloc_new w (.cells #[.int .i64 r, .string l, .int .i64 n] 41)) hb)
 clear hb
 generalize okBr r l = q at *
 cases q with
 | false =>
  go_wp2_with fail
  go_ret
  rw [HV.out]
  exact ⟨rfl, HB.out⟩
 | true =>
  by_cases h1 : 1 ≤ n
  · by_cases h2 : n ≤ 4611686018427387904
    · go_wp2_with fail
      go_ret
      rw [HV.out, decide_eq_true (show 1 ≤ n by omega), decide_eq_true (show n ≤ 4611686018427387904 by omega)]
      exact ⟨rfl, HB.out⟩
    · go_wp2_with fail
      go_ret
      rw [HV.out, decide_eq_true (show 1 ≤ n by omega), decide_eq_false (show ¬ (n ≤ 4611686018427387904) by omega)]
      exact ⟨rfl, HB.out⟩
  · go_wp2_with fail
    go_ret
    rw [HV.out, decide_eq_false (show ¬ (1 ≤ n) by omega)]
    exact ⟨rfl, HB.out⟩
theorem stp_Stamp (s : Sv) (w : World) (hs : s.l.size ≤ 9223372036854775807) : Calls Tryz.prog 77 #[.agg #[.int .i64 s.g, .int .i64 s.r, .string s.l, .int .i64 s.n, .int .i64 s.i]] w fun e w' => e = .returned (.bool s.ok) ∧ Below w.heap.size w w' := by
 have HV : Hid (s.ok = (decide (1 ≤ s.g) && decide (s.g ≤ 4611686018427387904) && okNm s.r s.l s.n && decide (0 ≤ s.i) && decide (s.i < 64))) := Lib.hid rfl
 obtain ⟨g, r, l, n, i⟩ := s
 simp only at hs HV ⊢
 generalize Sv.ok ⟨g, r, l, n, i⟩ = ok at *
 go_enter Tryz.func77, Tryz.ntmps77
 by_cases h1 : 1 ≤ g
 · by_cases h2 : g ≤ 4611686018427387904
   · go_wp2_with fail
     refine (stp_Name r l n _ hs).mono ?_
     rintro e w' ⟨rfl, hb⟩
     have HB : Hid (Below w.heap.size w w') := Lib.hid ((below_new w _).trans (hb.mono (by simp)))
     have k0 := cell_of_row _ _ 4 _ _ _ (boxStays (heap_alloc_new w (.cells #[.int .i64 g, .int .i64 r, .string l, .int .i64 n, .int .i64 i] 43)) hb)
     clear hb
     generalize okNm r l n = q at *
     cases q with
     | false =>
      go_wp2_with fail
      go_ret
      rw [HV.out, decide_eq_true (show 1 ≤ g by omega), decide_eq_true (show g ≤ 4611686018427387904 by omega)]
      exact ⟨rfl, HB.out⟩
     | true =>
      by_cases h3 : 0 ≤ i
      · by_cases h4 : i < 64
        · go_wp2_with fail
          go_ret
          rw [HV.out, decide_eq_true (show 1 ≤ g by omega), decide_eq_true (show g ≤ 4611686018427387904 by omega), decide_eq_true (show 0 ≤ i by omega), decide_eq_true (show i < 64 by omega)]
          exact ⟨rfl, HB.out⟩
        · go_wp2_with fail
          go_ret
          rw [HV.out, decide_eq_true (show 1 ≤ g by omega), decide_eq_true (show g ≤ 4611686018427387904 by omega), decide_eq_true (show 0 ≤ i by omega), decide_eq_false (show ¬ (i < 64) by omega)]
          exact ⟨rfl, HB.out⟩
      · go_wp2_with fail
        go_ret
        rw [HV.out, decide_eq_true (show 1 ≤ g by omega), decide_eq_true (show g ≤ 4611686018427387904 by omega), decide_eq_false (show ¬ (0 ≤ i) by omega)]
        exact ⟨rfl, HB.out⟩
   · go_wp2_with fail
     go_ret
     rw [HV.out, decide_eq_true (show 1 ≤ g by omega), decide_eq_false (show ¬ (g ≤ 4611686018427387904) by omega)]
     exact ⟨rfl, below_new _ _⟩
 · go_wp2_with fail
   go_ret
   rw [HV.out, decide_eq_false (show ¬ (1 ≤ g) by omega)]
   exact ⟨rfl, below_new _ _⟩
theorem ref6_Branch (r : Int) (l : ByteArray) (w : World) (hs : l.size ≤ 9223372036854775807) : Calls Tryz.prog 134 #[.agg #[.int .i64 r, .string l]] w fun e w' => e = .returned (.bool (okBr r l)) ∧ Below w.heap.size w w' := by
 have HV : Hid (okBr r l = (decide (0 ≤ r) && decide (r < 8) && okLabel l.data.toList)) := Lib.hid rfl
 go_enter Tryz.func134, Tryz.ntmps134
 by_cases h1 : 0 ≤ r
 · by_cases h2 : r < 8
   · go_wp2_with fail
     refine (ref5_Label l _ hs).mono ?_
     rintro e w' ⟨rfl, hb⟩
     go_wp2_with fail
     go_ret
     rw [HV.out, decide_eq_true (show 0 ≤ r by omega), decide_eq_true (show r < 8 by omega)]
     exact ⟨rfl, by subst hb; exact below_new w _⟩
   · go_wp2_with fail
     go_ret
     rw [HV.out, decide_eq_true (show 0 ≤ r by omega), decide_eq_false (show ¬ (r < 8) by omega)]
     exact ⟨rfl, below_new _ _⟩
 · go_wp2_with fail
   go_ret
   rw [HV.out, decide_eq_false (show ¬ (0 ≤ r) by omega)]
   exact ⟨rfl, below_new _ _⟩
theorem ref6_Name (r : Int) (l : ByteArray) (n : Int) (w : World) (hs : l.size ≤ 9223372036854775807) : Calls Tryz.prog 96 #[.agg #[.int .i64 r, .string l, .int .i64 n]] w fun e w' => e = .returned (.bool (okNm r l n)) ∧ Below w.heap.size w w' := by
 have HV : Hid (okNm r l n = (okBr r l && decide (1 ≤ n) && decide (n ≤ 4611686018427387904))) := Lib.hid rfl
 go_enter Tryz.func96, Tryz.ntmps96
 go_wp2_with fail
 refine (ref6_Branch r l _ hs).mono ?_
 rintro e w' ⟨rfl, hb⟩
 have HB : Hid (Below w.heap.size w w') := Lib.hid ((below_new w _).trans (hb.mono (by simp)))
 have k0 := cell_of_row _ _ 2 _ _ _ (boxStays (heap_alloc_new w (.cells #[.int .i64 r, .string l, .int .i64 n] 41)) hb)
 clear hb
 generalize okBr r l = q at *
 cases q with
 | false =>
  go_wp2_with fail
  go_ret
  rw [HV.out]
  exact ⟨rfl, HB.out⟩
 | true =>
  by_cases h1 : 1 ≤ n
  · by_cases h2 : n ≤ 4611686018427387904
    · go_wp2_with fail
      go_ret
      rw [HV.out, decide_eq_true (show 1 ≤ n by omega), decide_eq_true (show n ≤ 4611686018427387904 by omega)]
      exact ⟨rfl, HB.out⟩
    · go_wp2_with fail
      go_ret
      rw [HV.out, decide_eq_true (show 1 ≤ n by omega), decide_eq_false (show ¬ (n ≤ 4611686018427387904) by omega)]
      exact ⟨rfl, HB.out⟩
  · go_wp2_with fail
    go_ret
    rw [HV.out, decide_eq_false (show ¬ (1 ≤ n) by omega)]
    exact ⟨rfl, HB.out⟩
theorem ref6_Stamp (s : Sv) (w : World) (hs : s.l.size ≤ 9223372036854775807) : Calls Tryz.prog 49 #[.agg #[.int .i64 s.g, .int .i64 s.r, .string s.l, .int .i64 s.n, .int .i64 s.i]] w fun e w' => e = .returned (.bool s.ok) ∧ Below w.heap.size w w' := by
 have HV : Hid (s.ok = (decide (1 ≤ s.g) && decide (s.g ≤ 4611686018427387904) && okNm s.r s.l s.n && decide (0 ≤ s.i) && decide (s.i < 64))) := Lib.hid rfl
 obtain ⟨g, r, l, n, i⟩ := s
 simp only at hs HV ⊢
 generalize Sv.ok ⟨g, r, l, n, i⟩ = ok at *
 go_enter Tryz.func49, Tryz.ntmps49
 by_cases h1 : 1 ≤ g
 · by_cases h2 : g ≤ 4611686018427387904
   · go_wp2_with fail
     refine (ref6_Name r l n _ hs).mono ?_
     rintro e w' ⟨rfl, hb⟩
     have HB : Hid (Below w.heap.size w w') := Lib.hid ((below_new w _).trans (hb.mono (by simp)))
     have k0 := cell_of_row _ _ 4 _ _ _ (boxStays (heap_alloc_new w (.cells #[.int .i64 g, .int .i64 r, .string l, .int .i64 n, .int .i64 i] 43)) hb)
     clear hb
     generalize okNm r l n = q at *
     cases q with
     | false =>
      go_wp2_with fail
      go_ret
      rw [HV.out, decide_eq_true (show 1 ≤ g by omega), decide_eq_true (show g ≤ 4611686018427387904 by omega)]
      exact ⟨rfl, HB.out⟩
     | true =>
      by_cases h3 : 0 ≤ i
      · by_cases h4 : i < 64
        · go_wp2_with fail
          go_ret
          rw [HV.out, decide_eq_true (show 1 ≤ g by omega), decide_eq_true (show g ≤ 4611686018427387904 by omega), decide_eq_true (show 0 ≤ i by omega), decide_eq_true (show i < 64 by omega)]
          exact ⟨rfl, HB.out⟩
        · go_wp2_with fail
          go_ret
          rw [HV.out, decide_eq_true (show 1 ≤ g by omega), decide_eq_true (show g ≤ 4611686018427387904 by omega), decide_eq_true (show 0 ≤ i by omega), decide_eq_false (show ¬ (i < 64) by omega)]
          exact ⟨rfl, HB.out⟩
      · go_wp2_with fail
        go_ret
        rw [HV.out, decide_eq_true (show 1 ≤ g by omega), decide_eq_true (show g ≤ 4611686018427387904 by omega), decide_eq_false (show ¬ (0 ≤ i) by omega)]
        exact ⟨rfl, HB.out⟩
   · go_wp2_with fail
     go_ret
     rw [HV.out, decide_eq_true (show 1 ≤ g by omega), decide_eq_false (show ¬ (g ≤ 4611686018427387904) by omega)]
     exact ⟨rfl, below_new _ _⟩
 · go_wp2_with fail
   go_ret
   rw [HV.out, decide_eq_false (show ¬ (1 ≤ g) by omega)]
   exact ⟨rfl, below_new _ _⟩
end Go.Proofs.YtjlliohjeiclaaaGreatDoor
namespace Go.Proofs.YtjlliohjeiclaaaGreatDoor
open Go.RowKit
def preOf (ops : Array Oper) (i : Nat) : List Nat := match ops[i]? with
 | some o => (o.after.toList.filter fun e => Region.binds .any e).map fun e => e.on
 | none => []
def upB (ops : Array Oper) : Bool := (List.range ops.size).all fun i => (preOf ops i).all fun j => decide (j < i)
section
variable {P : Program} {ops : Array Oper} {Q : Exit → Act → World → Prop}
theorem pre_mem {i : Nat} {o : Oper} (ho : ops[i]? = some o) {j : Nat} : j ∈ preOf ops i ↔ ∃ e ∈ o.after, Region.binds .any e = true ∧ e.on = j := by
 unfold preOf
 rw [ho]
 simp only [List.mem_map, List.mem_filter, Array.mem_toList_iff]
 constructor
 · rintro ⟨e, ⟨h1, h2⟩, h3⟩; exact ⟨e, h1, h2, h3⟩
 · rintro ⟨e, h1, h2, h3⟩; exact ⟨e, ⟨h1, h2⟩, h3⟩
theorem ready_nil (hup : upB ops = true) {listed : Array Bool} (hs : listed.size = ops.size) (h : Region.ready .any ops listed = []) : ∀ i, i < ops.size → listed.getD i false = true := by
 intro i
 induction i using Nat.strongRecOn with
 | _ i ih =>
  intro hi
  cases e : listed.getD i false with
  | true => rfl
  | false =>
   have : i ∈ Region.ready .any ops listed := by
    rw [mem_ready]
    refine ⟨by simp [hs, hi] at e ⊢; exact e, _, Array.getElem?_eq_getElem hi, fun ed hed hb => ?_⟩
    have hm : ed.on ∈ preOf ops i := (pre_mem (Array.getElem?_eq_getElem hi)).2 ⟨ed, hed, hb, rfl⟩
    have h1 := List.all_eq_true.1 hup i (List.mem_range.2 hi)
    have h2 := List.all_eq_true.1 h1 _ hm
    have h3 : ed.on < i := of_decide_eq_true h2
    exact ih _ h3 (by omega)
   rw [h] at this
   cases this
theorem getD_set (listed : Array Bool) (i : Nat) (hi : i < listed.size) : (fun j => (listed.setIfInBounds i true).getD j false) = fun j => j == i || listed.getD j false := by
 funext j
 by_cases h : j = i
 · subst h; simp [hi]
 · have : (listed.setIfInBounds i true)[j]? = listed[j]? := Array.getElem?_setIfInBounds_ne (Ne.symm h)
   simp [Array.getD_eq_getD_getElem?, this, h]
theorem wpAnyH_inv (J : (Nat → Bool) → Act → World → Prop) (hup : upB ops = true)
 (step : ∀ i, i < ops.size → ∀ L a w, J L a w → L i = false → (∀ j ∈ preOf ops i, L j = true) → wpOp P ops Q i (fun a' w' => J (fun j => j == i || L j) a' w') a w)
 (fin : ∀ L a w, J L a w → (∀ i, i < ops.size → L i = true) → Q .normal a w) :
 ∀ (fuel : Nat) (listed : Array Bool) (a : Act) (w : World), listed.size = ops.size → (List.range ops.size).countP (fun i => !listed.getD i false) ≤ fuel → J (fun j => listed.getD j false) a w → wpAnyH P .any ops Q (fun _ => True) fuel listed a w := by
 intro fuel
 induction fuel with
 | zero =>
  intro listed a w hs hc hJ
  have hall : ∀ i, i < ops.size → listed.getD i false = true := by
   intro i hi
   have h0 := List.countP_eq_zero.1 (Nat.le_zero.1 hc) i (List.mem_range.2 hi)
   simpa using h0
  refine ⟨?_, fin _ _ _ hJ hall⟩
  rw [List.eq_nil_iff_forall_not_mem]
  intro i hi
  obtain ⟨h1, o, h2, _⟩ := mem_ready.1 hi
  have hlt := (Array.getElem?_eq_some_iff.1 h2).1
  have := hall i hlt
  simp [hs, hlt] at h1 this
  rw [h1] at this; cases this
 | succ fuel ih =>
  intro listed a w hs hc hJ
  refine ⟨fun h => fin _ _ _ hJ (ready_nil hup hs h), fun i hi => ?_⟩
  obtain ⟨h1, o, h2, h3⟩ := mem_ready.1 hi
  have hlt := (Array.getElem?_eq_some_iff.1 h2).1
  have hL : listed.getD i false = false := by simp [hs, hlt] at h1 ⊢; exact h1
  refine wpOp_mono (fun a' w' hJ' => ⟨trivial, ih _ a' w' (by simp [hs]) ?_ ?_⟩) (step i hlt _ a w hJ hL (fun j hj => by
   obtain ⟨e, he, hb, rfl⟩ := (pre_mem h2).1 hj
   exact h3 e he hb))
  · have e := getD_set listed i (by omega)
    have hlt2 : (List.range ops.size).countP (fun j => !(listed.setIfInBounds i true).getD j false) < (List.range ops.size).countP (fun j => !listed.getD j false) := by
     have e2 : (fun j => !(listed.setIfInBounds i true).getD j false) = fun j => (!(j == i)) && !listed.getD j false := by
      funext j
      have := congrFun e j
      rw [this]; simp
     rw [e2]
     have hp : (fun j => !listed.getD j false) i = true := by simp only [hL]; rfl
     have key : ∀ l : List Nat, i ∈ l → l.countP (fun j => (!(j == i)) && !listed.getD j false) < l.countP (fun j => !listed.getD j false) := by
      intro l
      induction l with
      | nil => intro h; cases h
      | cons x l ihl =>
       intro hm
       have hle : l.countP (fun j => (!(j == i)) && !listed.getD j false) ≤ l.countP (fun j => !listed.getD j false) :=
        List.countP_mono_left fun y _ hy => by simp only [Bool.and_eq_true] at hy; exact hy.2
       rw [List.countP_cons, List.countP_cons]
       by_cases hx : x = i
       · subst hx
         rw [if_neg (by simp), if_pos hp]
         omega
       · have := ihl ((List.mem_cons.1 hm).resolve_left (Ne.symm hx))
         have e3 : ((!(x == i)) && !listed.getD x false) = !listed.getD x false := by simp [hx]
         rw [e3]
         omega
     exact key _ (List.mem_range.2 hlt)
    omega
  · rw [getD_set listed i (by omega)]
    exact hJ'
theorem region_inv {id : Nat} {a : Act} {w : World} (J : (Nat → Bool) → Act → World → Prop) (hm : P.follows .mixedOrders = true) (hup : upB ops = true)
 (h0 : J (fun _ => false) a w.drew)
 (step : ∀ i, i < ops.size → ∀ L a w, J L a w → L i = false → (∀ j ∈ preOf ops i, L j = true) → wpOp P ops Q i (fun a' w' => J (fun j => j == i || L j) a' w') a w)
 (fin : ∀ L a w, J L a w → (∀ i, i < ops.size → L i = true) → Q .normal a w) : (Code.region id ops true).wp P Q a w := by
 refine wp_region_held_drew (S := fun _ => True) hm trivial fun _ => ?_
 refine wpAnyH_inv J hup step fin _ _ a w.drew (by simp) ?_ ?_
 · refine Nat.le_trans List.countP_le_length ?_
   simp
 · have e : (fun j => (Array.replicate ops.size false).getD j false) = fun _ => false := by
    funext j
    simp [Array.getD_eq_getD_getElem?, Array.getElem?_replicate]
    split <;> rfl
   rw [e]; exact h0
end
def regT (base : Array Value) (slots : List Nat) (f : Nat → Value) : Array Value := slots.foldl (fun t k => t.setIfInBounds k (f k)) base
def updF (f : Nat → Value) (d : Nat) (v : Value) (k : Nat) : Value := if k = d then v else f k
theorem regT_get (f : Nat → Value) : ∀ (slots : List Nat) (base : Array Value) (k : Nat), (regT base slots f)[k]? = if k ∈ slots ∧ k < base.size then some (f k) else base[k]?
 | [], base, k => by simp [regT]
 | d :: slots, base, k => by
  have h := regT_get f slots (base.setIfInBounds d (f d)) k
  unfold regT at h ⊢
  rw [List.foldl_cons, h]
  by_cases h1 : k ∈ slots ∧ k < base.size
  · rw [if_pos (by simpa using h1), if_pos ⟨List.mem_cons_of_mem _ h1.1, h1.2⟩]
  · rw [if_neg (by simpa using h1)]
    by_cases h2 : k = d
    · subst h2
      by_cases h3 : k < base.size
      · rw [if_pos ⟨List.mem_cons_self, h3⟩]; simp [h3]
      · rw [if_neg (fun h => h3 h.2)]; simp [h3]
    · rw [if_neg (by
       rintro ⟨h3, h4⟩
       exact h1 ⟨(List.mem_cons.1 h3).resolve_left h2, h4⟩)]
      exact Array.getElem?_setIfInBounds_ne (Ne.symm h2)
theorem regT_id (base : Array Value) (slots : List Nat) : regT base slots (fun k => base.getD k undef) = base := by
 apply Array.ext_getElem?
 intro k
 rw [regT_get]
 split
 · rename_i h; simp [Array.getD_eq_getD_getElem?, h.2]
 · rfl
theorem regT_put (base : Array Value) (slots : List Nat) (f : Nat → Value) (d : Nat) (v : Value) (hd : d ∈ slots) : (regT base slots f).setIfInBounds d v = regT base slots (updF f d v) := by
 apply Array.ext_getElem?
 intro k
 have hsz : ∀ g, (regT base slots g).size = base.size := fun g => by
  unfold regT
  clear hd
  induction slots generalizing base with
  | nil => rfl
  | cons x l ih => rw [List.foldl_cons, ih]; simp
 rw [regT_get]
 by_cases h : k = d
 · subst h
   by_cases h2 : k < base.size
   · rw [if_pos ⟨hd, h2⟩]; simp [hsz, h2, updF]
   · rw [if_neg (fun h => h2 h.2)]; simp [hsz, h2]
 · rw [Array.getElem?_setIfInBounds_ne (Ne.symm h), regT_get]
   simp [updF, h]
theorem regT_in {base : Array Value} {slots : List Nat} {f : Nat → Value} {k : Nat} (h : k ∈ slots) (h2 : k < base.size) : (regT base slots f).getD k undef = f k := by
 rw [Array.getD_eq_getD_getElem?, regT_get, if_pos ⟨h, h2⟩]; rfl
theorem regT_out {base : Array Value} {slots : List Nat} {f : Nat → Value} {k : Nat} (h : k ∉ slots) : (regT base slots f).getD k undef = base.getD k undef := by
 rw [Array.getD_eq_getD_getElem?, regT_get, if_neg (fun hh => h hh.1), Array.getD_eq_getD_getElem?]
section
variable {P : Program} {ops : Array Oper} {Q : Exit → Act → World → Prop}
variable {base : Array Value} {df : List Deferred} {slots : List Nat} {V : List (Nat × Nat × Value)} {M : (Nat → Bool) → (Nat → Value) → World → Prop}
end
structure Als (T : TypeId) (B : Nat) (rows : List (Nat × Nat × Nat)) (z : Array Value) (vv : Nat → Array Value) (X : Nat → Bool) (f : Nat → Value) (w : World) : Prop where
 a : ∀ r ∈ rows, X r.1 = false → X r.2.1 = false
 b : ∀ r ∈ rows, X r.1 = true → ∃ cc, f r.2.2 = .pointer (some ⟨cc, 0, none⟩) ∧ B ≤ cc ∧ w.heap[cc]? = some (.cells (if X r.2.1 = true then vv r.2.2 else z) T (0, 0))
 n : ∀ r ∈ rows, ∀ r' ∈ rows, r.2.2 ≠ r'.2.2 → X r.1 = true → X r'.1 = true → f r.2.2 ≠ f r'.2.2
def rowsOK (rows : List (Nat × Nat × Nat)) : Bool := rows.all fun r => rows.all fun r' => (decide (r.1 = r'.1) == decide (r.2.2 = r'.2.2)) && (decide (r.2.1 = r'.2.1) == decide (r.2.2 = r'.2.2)) && !decide (r.1 = r'.2.1)
theorem rowsOK_out {rows : List (Nat × Nat × Nat)} (h : rowsOK rows = true) {r r' : Nat × Nat × Nat} (hr : r ∈ rows) (hr' : r' ∈ rows) : (r.1 = r'.1 ↔ r.2.2 = r'.2.2) ∧ (r.2.1 = r'.2.1 ↔ r.2.2 = r'.2.2) ∧ r.1 ≠ r'.2.1 := by
 have h1 := List.all_eq_true.1 (List.all_eq_true.1 h r hr) r' hr'
 simp only [Bool.and_eq_true, beq_iff_eq, decide_eq_decide, Bool.not_eq_true', decide_eq_false_iff_not] at h1
 exact ⟨h1.1.1, h1.1.2, h1.2⟩
section
variable {T : TypeId} {B : Nat} {rows : List (Nat × Nat × Nat)} {z : Array Value} {vv : Nat → Array Value} {X X' : Nat → Bool} {f f' : Nat → Value} {w w' : World}
theorem Als.start (hX : ∀ k, X k = false) : Als T B rows z vv X f w :=
 ⟨fun _ _ _ => hX _, fun r _ h => (by rw [hX] at h; cases h), fun r _ r' _ _ h => (by rw [hX] at h; cases h)⟩
theorem Als.keep (h : Als T B rows z vv X f w) (hb : Below w.heap.size w w') (he : ∀ r ∈ rows, X' r.1 = X r.1 ∧ X' r.2.1 = X r.2.1 ∧ f' r.2.2 = f r.2.2) : Als T B rows z vv X' f' w' := by
 refine ⟨fun r hr hx => ?_, fun r hr hx => ?_, fun r hr r' hr' hn hx hx' => ?_⟩
 · rw [(he r hr).2.1]; exact h.a r hr ((he r hr).1 ▸ hx)
 · obtain ⟨cc, e1, e2, e3⟩ := h.b r hr ((he r hr).1 ▸ hx)
   exact ⟨cc, (he r hr).2.2.trans e1, e2, by rw [(he r hr).2.1]; exact (hb.block cc (Array.getElem?_eq_some_iff.1 e3).1).trans e3⟩
 · rw [(he r hr).2.2, (he r' hr').2.2]; exact h.n r hr r' hr' hn ((he r hr).1 ▸ hx) ((he r' hr').1 ▸ hx')
theorem Als.alloc (h : Als T B rows z vv X f w) (hok : rowsOK rows = true) (hB : B ≤ w.heap.size) {r : Nat × Nat × Nat} (hr : r ∈ rows) (hx : X r.1 = false) :
 Als T B rows z vv (fun j => j == r.1 || X j) (updF f r.2.2 (.pointer (some ⟨w.heap.size, 0, none⟩))) (w.alloc (.cells z T)) := by
 have hnew : ∀ r' ∈ rows, X r'.1 = true → f r'.2.2 ≠ .pointer (some ⟨w.heap.size, 0, none⟩) := fun r' hr' hx' e => by
  obtain ⟨cc, e1, e2, e3⟩ := h.b r' hr' hx'
  rw [e1] at e
  have : cc = w.heap.size := by simpa using e
  have h2 := (Array.getElem?_eq_some_iff.1 e3).1
  omega
 have hs : ∀ r' ∈ rows, (r'.2.1 == r.1 || X r'.2.1) = X r'.2.1 := fun r' hr' => by
  have := (rowsOK_out hok hr hr').2.2
  have e : (r'.2.1 == r.1) = false := by simp; exact fun e => this e.symm
  rw [e]; rfl
 refine ⟨fun r' hr' hx' => ?_, fun r' hr' hx' => ?_, fun r1 hr1 r2 hr2 hn hx1 hx2 => ?_⟩
 · simp only [hs r' hr']
   refine h.a r' hr' ?_
   simp only [Bool.or_eq_false_iff] at hx'
   exact hx'.2
 · simp only [hs r' hr']
   by_cases e : r'.2.2 = r.2.2
   · have e1 := (rowsOK_out hok hr' hr).1.2 e
     have e2 := (rowsOK_out hok hr' hr).2.1.2 e
     refine ⟨w.heap.size, by unfold updF; rw [if_pos e], hB, ?_⟩
     rw [if_neg (by rw [h.a r' hr' (by rw [e1]; exact hx)]; decide)]
     exact heap_alloc_new w _
   · have e1 : r'.1 ≠ r.1 := fun e1 => e ((rowsOK_out hok hr' hr).1.1 e1)
     have hx2 : X r'.1 = true := by simpa [e1] using hx'
     obtain ⟨cc, h1, h2, h3⟩ := h.b r' hr' hx2
     exact ⟨cc, by unfold updF; rw [if_neg e]; exact h1, h2, ((below_new w _).block cc (Array.getElem?_eq_some_iff.1 h3).1).trans h3⟩
 · unfold updF
   have ha : ∀ r' ∈ rows, r'.2.2 ≠ r.2.2 → (r'.1 == r.1 || X r'.1) = true → X r'.1 = true := fun r' hr' hn' hx' => by
    have e1 : r'.1 ≠ r.1 := fun e1 => hn' ((rowsOK_out hok hr' hr).1.1 e1)
    simpa [e1] using hx'
   by_cases e1 : r1.2.2 = r.2.2
   · have e2 : r2.2.2 ≠ r.2.2 := fun e2 => hn (e1.trans e2.symm)
     rw [if_pos e1, if_neg e2]
     exact (hnew r2 hr2 (ha r2 hr2 e2 hx2)).symm
   · rw [if_neg e1]
     by_cases e2 : r2.2.2 = r.2.2
     · rw [if_pos e2]
       exact hnew r1 hr1 (ha r1 hr1 e1 hx1)
     · rw [if_neg e2]
       exact h.n r1 hr1 r2 hr2 hn (ha r1 hr1 e1 hx1) (ha r2 hr2 e2 hx2)
theorem Als.store (h : Als T B rows z vv X f w) (hok : rowsOK rows = true) {r : Nat × Nat × Nat} (hr : r ∈ rows) (hx : X r.1 = true) {cc : Nat} (hf : f r.2.2 = .pointer (some ⟨cc, 0, none⟩)) :
 Als T B rows z vv (fun j => j == r.2.1 || X j) f (w.setRow cc (vv r.2.2)) := by
 have hs : ∀ r' ∈ rows, (r'.1 == r.2.1 || X r'.1) = X r'.1 := fun r' hr' => by
  have := (rowsOK_out hok hr' hr).2.2
  have e : (r'.1 == r.2.1) = false := by simp; exact this
  rw [e]; rfl
 refine ⟨fun r' hr' hx' => ?_, fun r' hr' hx' => ?_, fun r1 hr1 r2 hr2 hn hx1 hx2 => ?_⟩
 · simp only [hs r' hr'] at hx'
   by_cases e : r'.2.1 = r.2.1
   · have e1 := (rowsOK_out hok hr' hr).1.2 ((rowsOK_out hok hr' hr).2.1.1 e)
     rw [e1, hx] at hx'; cases hx'
   · have := h.a r' hr' hx'
     simp [e, this]
 · simp only [hs r' hr'] at hx'
   obtain ⟨c', h1, h2, h3⟩ := h.b r' hr' hx'
   by_cases e : r'.2.2 = r.2.2
   · have e2 := (rowsOK_out hok hr' hr).2.1.2 e
     have ec : c' = cc := by
      have := h1.symm.trans ((congrArg f e).trans hf)
      simpa using this
     subst ec
     refine ⟨c', h1, h2, ?_⟩
     rw [if_pos (by simp [e2]), e]
     exact setRow_heap w c' _ _ _ _ h3
   · have e2 : r'.2.1 ≠ r.2.1 := fun e2 => e ((rowsOK_out hok hr' hr).2.1.1 e2)
     have hn := h.n r' hr' r hr e hx' hx
     have ec : c' ≠ cc := fun ec => hn (by rw [h1, hf, ec])
     refine ⟨c', h1, h2, ?_⟩
     have e3 : (r'.2.1 == r.2.1 || X r'.2.1) = X r'.2.1 := by
      have : (r'.2.1 == r.2.1) = false := by simpa using e2
      rw [this]; rfl
     simp only [e3]
     rw [setRow_other w cc c' _ ec]
     exact h3
 · simp only [hs r1 hr1] at hx1
   simp only [hs r2 hr2] at hx2
   exact h.n r1 hr1 r2 hr2 hn hx1 hx2
end
end Go.Proofs.YtjlliohjeiclaaaGreatDoor
namespace Go.Proofs.YtjlliohjeiclaaaGreatDoor
open Go.RowKit
abbrev Pr := Value → World → Prop
def anyV : Pr := fun _ _ => True
def Stay (g : Pr) : Prop := ∀ v w w', g v w → Below w.heap.size w w' → g v w'
def dstN (ops : Array Oper) (i : Nat) : Option Nat := (ops[i]?).bind (·.dst)
def dstsOK (ops : Array Oper) (slots : List Nat) : Bool := (List.range ops.size).all fun i => match dstN ops i with
 | none => true
 | some d => slots.contains d && (List.range ops.size).all fun j => j == i || dstN ops j != some d
def lkG (gs : List Pr) (j : Nat) : Pr := if j < gs.length then gs.getD (gs.length - 1 - j) anyV else anyV
theorem lkG_old (gs : List Pr) (g : Pr) (j : Nat) (h : j < gs.length) : lkG (g :: gs) j = lkG gs j := by
 unfold lkG
 rw [if_pos h, if_pos (by rw [List.length_cons]; omega), List.length_cons, show gs.length + 1 - 1 - j = (gs.length - 1 - j) + 1 by omega, List.getD_cons_succ]
theorem lkG_new (gs : List Pr) (g : Pr) : lkG (g :: gs) gs.length = g := by
 unfold lkG
 rw [if_pos (by rw [List.length_cons]; omega), List.length_cons, show gs.length + 1 - 1 - gs.length = 0 by omega, List.getD_cons_zero]
def depsOK (ops : Array Oper) (i : Nat) (ds : List (Nat × Nat × Nat)) : Bool := ds.all fun p => ((preOf ops i).contains p.1 && dstN ops p.1 == some p.2.1) && decide (p.1 + p.2.2 + 1 = i)
def finOK (ops : Array Oper) (ds : List (Nat × Nat × Nat)) : Bool := ds.all fun p => decide (p.1 + p.2.2 + 1 = ops.size) && dstN ops p.1 == some p.2.1
def DepF (gs : List Pr) (t : Array Value) (w : World) : List (Nat × Nat × Nat) → Prop
 | [] => True
 | p :: ds => (∃ x, (t.getD p.2.1 undef = x ∧ t[p.2.1]?.getD undef = x) ∧ gs.getD p.2.2 anyV x w) ∧ DepF gs t w ds
def FinF (gs : List Pr) (f : Nat → Value) (w : World) : List (Nat × Nat × Nat) → Prop
 | [] => True
 | p :: ds => (∃ x, f p.2.1 = x ∧ gs.getD p.2.2 anyV x w) ∧ FinF gs f w ds
def BasF (base t : Array Value) : List Nat → Prop
 | [] => True
 | k :: ks => (t.getD k undef = base.getD k undef ∧ t[k]?.getD undef = base.getD k undef) ∧ BasF base t ks
theorem wanted_none {o : Oper} {y : Nat → Option Bool} (h : o.guard = none) : Region.wanted o y = true := by simp [Region.wanted, h]
theorem getD_two {t : Array Value} {k : Nat} {v : Value} (h : t.getD k undef = v) : t[k]?.getD undef = v := by rwa [Array.getD_eq_getD_getElem?] at h
theorem basF_of {base : Array Value} {slots : List Nat} {f : Nat → Value} : ∀ {bs : List Nat}, (bs.all fun k => !slots.contains k) = true → BasF base (regT base slots f) bs
 | [], _ => trivial
 | k :: ks, h => by
  simp only [List.all_cons, Bool.and_eq_true] at h
  exact ⟨⟨regT_out (by simpa using h.1), getD_two (regT_out (by simpa using h.1))⟩, basF_of h.2⟩
theorem depF_of {ops : Array Oper} {gs : List Pr} {base : Array Value} {slots : List Nat} {f : Nat → Value} {w : World} {i : Nat} (hl : gs.length = i) (hsl : ∀ j d, dstN ops j = some d → d ∈ slots) (hsz : ∀ d ∈ slots, d < base.size)
 (hp : ∀ j ∈ preOf ops i, ∀ d, dstN ops j = some d → j < i → lkG gs j (f d) w) : ∀ {ds : List (Nat × Nat × Nat)}, depsOK ops i ds = true → DepF gs (regT base slots f) w ds
 | [], _ => trivial
 | p :: ds, h => by
  simp only [depsOK, List.all_cons, Bool.and_eq_true] at h
  obtain ⟨⟨⟨h1, h2⟩, h4⟩, h3⟩ := h
  have e : dstN ops p.1 = some p.2.1 := by simpa using h2
  have hd := hsl _ _ e
  have hj : p.1 + p.2.2 + 1 = i := by simpa using h4
  have e1 := regT_in (f := f) hd (hsz _ hd)
  have h5 := hp _ (by simpa using h1) _ e (by omega)
  unfold lkG at h5
  rw [if_pos (by omega), show gs.length - 1 - p.1 = p.2.2 by omega] at h5
  exact ⟨⟨f p.2.1, ⟨e1, getD_two e1⟩, h5⟩, depF_of hl hsl hsz hp h3⟩
theorem finF_of {ops : Array Oper} {gs : List Pr} {f : Nat → Value} {w : World} (hl : gs.length = ops.size) (hp : ∀ j, j < ops.size → ∀ d, dstN ops j = some d → lkG gs j (f d) w) : ∀ {ds : List (Nat × Nat × Nat)}, finOK ops ds = true → FinF gs f w ds
 | [], _ => trivial
 | p :: ds, h => by
  simp only [finOK, List.all_cons, Bool.and_eq_true] at h
  obtain ⟨⟨h1, h2⟩, h3⟩ := h
  have hj : p.1 + p.2.2 + 1 = ops.size := by simpa using h1
  have h5 := hp p.1 (by omega) _ (by simpa using h2)
  unfold lkG at h5
  rw [if_pos (by omega), show gs.length - 1 - p.1 = p.2.2 by omega] at h5
  exact ⟨⟨f p.2.1, rfl, h5⟩, finF_of hl hp h3⟩
section
variable {P : Program} {ops : Array Oper} {Q : Exit → Act → World → Prop} {id : Nat} {base : Array Value} {df : List Deferred} {slots : List Nat} {W0 : World}
def StepOK (P : Program) (ops : Array Oper) (Q : Exit → Act → World → Prop) (base : Array Value) (df : List Deferred) (slots : List Nat) (W0 : World) (gs : List Pr) (i : Nat) : Prop :=
 ∀ f w, Below W0.heap.size W0 w → (∀ j ∈ preOf ops i, ∀ d, dstN ops j = some d → lkG gs j (f d) w) → ∀ K : Act → World → Prop,
  (∀ v w', lkG gs i v w' → Below w.heap.size w w' → K ({ tmps := regT base slots f, defers := df : Act }.put (dstN ops i) v) w') → wpOp P ops Q i K { tmps := regT base slots f, defers := df } w
def RelG (P : Program) (ops : Array Oper) (Q : Exit → Act → World → Prop) (id : Nat) (base : Array Value) (df : List Deferred) (slots : List Nat) (W0 : World) (so : List Nat) (gs : List Pr) : Prop :=
 upB ops = true → (∀ j d, dstN ops j = some d → d ∈ slots) → (∀ i j d, dstN ops i = some d → dstN ops j = some d → i = j) → (∀ d ∈ slots, d < base.size) →
  (∀ i, i < gs.length → so.contains i = false → Stay (lkG gs i) ∧ StepOK P ops Q base df slots W0 gs i) → (Code.region id ops true).wp P Q { tmps := base, defers := df } W0
theorem dstN_lt {i d : Nat} (h : dstN ops i = some d) : i < ops.size := by
 unfold dstN at h
 rcases Nat.lt_or_ge i ops.size with hl | hl
 · exact hl
 · rw [Array.getElem?_eq_none hl] at h; cases h
theorem relG_start {so : List Nat} (hup : upB ops = true) (hd : dstsOK ops slots = true) (hz : (slots.all fun d => decide (d < base.size)) = true) (h : RelG P ops Q id base df slots W0 so []) : (Code.region id ops true).wp P Q { tmps := base, defers := df } W0 := by
 have hall : ∀ i d, dstN ops i = some d → slots.contains d = true ∧ ∀ j, j < ops.size → (j == i || dstN ops j != some d) = true := fun i d e => by
  have h1 := List.all_eq_true.1 hd i (List.mem_range.2 (dstN_lt e))
  rw [e] at h1
  simp only [Bool.and_eq_true] at h1
  exact ⟨h1.1, fun j hj => List.all_eq_true.1 h1.2 j (List.mem_range.2 hj)⟩
 have hsz : ∀ d ∈ slots, d < base.size := fun d hd => of_decide_eq_true (List.all_eq_true.1 hz d hd)
 refine h hup (fun j d e => by simpa using (hall j d e).1) (fun i j d e1 e2 => ?_) hsz (fun i hi => by simp at hi)
 have := (hall i d e1).2 j (dstN_lt e2)
 rw [e2] at this
 simp at this
 exact this.symm
theorem up_lt (hup : upB ops = true) {i j : Nat} (hi : i < ops.size) (hj : j ∈ preOf ops i) : j < i := by
 have h1 := List.all_eq_true.1 hup i (List.mem_range.2 hi)
 exact of_decide_eq_true (List.all_eq_true.1 h1 j hj)
theorem relG_step {so : List Nat} {gs : List Pr} (g : Pr) (hl : gs.length < ops.size) (hm : Stay g) (hs : (∀ j d, dstN ops j = some d → d ∈ slots) → (∀ d ∈ slots, d < base.size) → StepOK P ops Q base df slots W0 (g :: gs) gs.length) (h : RelG P ops Q id base df slots W0 so (g :: gs)) : RelG P ops Q id base df slots W0 so gs := by
 intro hup hsl hinj hsz hall
 refine h hup hsl hinj hsz fun i hi hso => ?_
 rw [List.length_cons] at hi
 by_cases e : i = gs.length
 · subst e
   exact ⟨by rw [lkG_new]; exact hm, hs hsl hsz⟩
 · have hi' : i < gs.length := by omega
   obtain ⟨h1, h2⟩ := hall i hi' hso
   rw [lkG_old _ _ _ hi']
   refine ⟨h1, fun f w hb hp K hK => ?_⟩
   rw [lkG_old _ _ _ hi'] at hK
   refine h2 f w hb (fun j hj d e => ?_) K hK
   have hlt := up_lt hup (by omega) hj
   have := hp j hj d e
   rwa [lkG_old _ _ _ (by omega)] at this
theorem relG_pure {so : List Nat} {gs : List Pr} {i : Nat} {o : Oper} {v : Value} (ds : List (Nat × Nat × Nat)) (bs : List Nat) (hl : gs.length = i) (ho : ops[i]? = some o) (hd : depsOK ops i ds = true) (hb : (bs.all fun k => !slots.contains k) = true)
 (hy : ∀ t w, Below W0.heap.size W0 w → DepF gs t w ds → BasF base t bs → YieldsIf P ops (fun w' => w' = w) o v { tmps := t, defers := df })
 (h : RelG P ops Q id base df slots W0 so ((fun x _ => x = v) :: gs)) : RelG P ops Q id base df slots W0 so gs := by
 subst hl
 refine relG_step _ (Array.getElem?_eq_some_iff.1 ho).1 (fun _ _ _ h _ => h) (fun hsl hsz => ?_) h
 intro f w hW hp K hK
 rw [lkG_new] at hK
 have hdp : DepF gs (regT base slots f) w ds := depF_of rfl hsl hsz (fun j hj d e hlt => by
  have := hp j hj d e
  rwa [lkG_old _ _ _ hlt] at this) hd
 have hY := hy (regT base slots f) w hW hdp (basF_of hb)
 have hdst : dstN ops gs.length = o.dst := by unfold dstN; rw [ho]; rfl
 rw [hdst] at hK
 exact hY.wpOp ho rfl (hK v w rfl (Below.refl _ _))
theorem relG_call {so : List Nat} {gs : List Pr} {i : Nat} {o : Oper} (g : Pr) (ds : List (Nat × Nat × Nat)) (bs : List Nat) (hl : gs.length = i) (ho : ops[i]? = some o) (hd : depsOK ops i ds = true) (hb : (bs.all fun k => !slots.contains k) = true) (hm : Stay g)
 (hw : ∀ t w, Below W0.heap.size W0 w → DepF gs t w ds → BasF base t bs → ∀ K : Act → World → Prop, Shut (∀ v w', g v w' → Below w.heap.size w w' → K ({ tmps := t, defers := df : Act }.put o.dst v) w') →
  Region.wanted o (yielded ops t) = true ∧ o.wp P { tmps := t, defers := df } w K Q)
 (h : RelG P ops Q id base df slots W0 so (g :: gs)) : RelG P ops Q id base df slots W0 so gs := by
 subst hl
 refine relG_step _ (Array.getElem?_eq_some_iff.1 ho).1 hm (fun hsl hsz => ?_) h
 intro f w hW hp K hK
 rw [lkG_new] at hK
 have hdp : DepF gs (regT base slots f) w ds := depF_of rfl hsl hsz (fun j hj d e hlt => by
  have := hp j hj d e
  rwa [lkG_old _ _ _ hlt] at this) hd
 have hdst : dstN ops gs.length = o.dst := by unfold dstN; rw [ho]; rfl
 rw [hdst] at hK
 obtain ⟨h1, h2⟩ := hw (regT base slots f) w hW hdp (basF_of hb) K hK
 unfold wpOp
 rw [ho]
 simp only [h1, if_true]
 exact .inl h2
theorem relG_done {gs : List Pr} (ps : List (Nat × Nat × Nat)) (hm : P.follows .mixedOrders = true) (hl : gs.length = ops.size) (hps : finOK ops ps = true)
 (h : ∀ f w, Below W0.heap.size W0 w → FinF gs f w ps → Q .normal { tmps := regT base slots f, defers := df } w) : RelG P ops Q id base df slots W0 [] gs := by
 intro hup hsl hinj hsz hall0
 have hall : ∀ i, i < gs.length → Stay (lkG gs i) ∧ StepOK P ops Q base df slots W0 gs i := fun i hi => hall0 i hi rfl
 refine region_inv (fun L a w => ∃ f, a = { tmps := regT base slots f, defers := df } ∧ Below W0.heap.size W0 w ∧ ∀ i d, dstN ops i = some d → L i = true → lkG gs i (f d) w) hm hup
  ⟨fun k => base.getD k undef, by rw [regT_id], (Below.refl _ _).drew, fun _ _ _ h => by cases h⟩ ?_ ?_
 · rintro i hi L a w ⟨f, rfl, hW, hL⟩ hLi hpre
   obtain ⟨h1, h2⟩ := hall i (by omega)
   refine h2 f w hW (fun j hj d e => hL j d e (hpre j hj)) _ fun v w' hg hb => ?_
   have hW' := hW.trans (hb.mono hW.size)
   cases hdi : dstN ops i with
   | none =>
    refine ⟨f, rfl, hW', fun j d e hj => ?_⟩
    have hne : j ≠ i := fun e' => by rw [e', hdi] at e; cases e
    have : L j = true := by simpa [hne] using hj
    exact (hall j (by have := dstN_lt e; omega)).1 _ _ _ (hL j d e this) hb
   | some di =>
    refine ⟨updF f di v, ?_, hW', fun j d e hj => ?_⟩
    · show ({ tmps := (regT base slots f).setIfInBounds di v, defers := df } : Act) = _
      rw [regT_put _ _ _ _ _ (hsl i di hdi)]
    · unfold updF
      by_cases hne : j = i
      · subst hne
        rw [hdi] at e
        cases e
        rw [if_pos rfl]
        exact hg
      · have h3 : d ≠ di := fun e' => hne (hinj j i d e (e' ▸ hdi))
        rw [if_neg h3]
        have : L j = true := by simpa [hne] using hj
        exact (hall j (by have := dstN_lt e; omega)).1 _ _ _ (hL j d e this) hb
 · rintro L a w ⟨f, rfl, hW, hL⟩ hLall
   exact h f w hW (finF_of hl (fun j hj d e => hL j d e (hLall j hj)) hps)
def needsN (ops : Array Oper) : Nat → Nat → Nat → Bool
 | 0, _, _ => false
 | f + 1, i, j => (preOf ops i).contains j || (preOf ops i).any fun k => needsN ops f k j
def tailB (ops : Array Oper) (m : Nat) : Bool := (List.range ops.size).all fun i => decide (i < m) || (List.range i).all fun j => needsN ops 6 i j
def ClosedL (ops : Array Oper) (L : Nat → Bool) : Prop := ∀ i, L i = true → ∀ j ∈ preOf ops i, L j = true
theorem needsN_out {L : Nat → Bool} (hc : ClosedL ops L) : ∀ (f i j : Nat), needsN ops f i j = true → (∀ k ∈ preOf ops i, L k = true) → L j = true
 | 0, _, _, h, _ => by cases h
 | f + 1, i, j, h, hp => by
  simp only [needsN, Bool.or_eq_true, List.any_eq_true] at h
  rcases h with h | ⟨k, hk, h⟩
  · exact hp j (by simpa using h)
  · exact needsN_out hc f k j h (hc k (hp k hk))
theorem wpList_wpOp {i : Nat} {a : Act} {w : World} (hi : i < ops.size) (h : wpList P ops Q (ops.toList.drop i) a w) : wpOp P ops Q i (wpList P ops Q (ops.toList.drop (i + 1))) a w := by
 rw [List.drop_eq_getElem_cons (by simpa using hi)] at h
 unfold wpOp
 rw [Array.getElem?_eq_getElem hi]
 exact h
theorem relG_tail {gs : List Pr} (m : Nat) (ps : List (Nat × Nat × Nat)) (hm : P.follows .mixedOrders = true) (hl : gs.length = m) (hps : (ps.all fun p => decide (p.1 + p.2.2 + 1 = m) && dstN ops p.1 == some p.2.1) = true) (ht : tailB ops m = true)
 (h : ∀ f w, Below W0.heap.size W0 w → FinF gs f w ps → wpList P ops Q (ops.toList.drop m) { tmps := regT base slots f, defers := df } w) (hmn0 : decide (m ≤ ops.size) = true) : RelG P ops Q id base df slots W0 [] gs := by
 have hmn : m ≤ ops.size := of_decide_eq_true hmn0
 intro hup hsl hinj hsz hall0
 have hall : ∀ i, i < gs.length → Stay (lkG gs i) ∧ StepOK P ops Q base df slots W0 gs i := fun i hi => hall0 i hi rfl
 have hreach : ∀ (L : Nat → Bool), ClosedL ops L → ∀ i, i < ops.size → m ≤ i → (∀ k ∈ preOf ops i, L k = true) → ∀ j, j < i → L j = true := by
  intro L hc i hi hmi hp j hj
  have h1 := List.all_eq_true.1 ht i (List.mem_range.2 hi)
  simp only [Bool.or_eq_true, decide_eq_true_eq] at h1
  have h2 := List.all_eq_true.1 (h1.resolve_left (by omega)) j (List.mem_range.2 hj)
  exact needsN_out hc 6 i j h2 hp
 have hclo : ∀ (L : Nat → Bool) i, ClosedL ops L → (∀ k ∈ preOf ops i, L k = true) → ClosedL ops (fun j => j == i || L j) := by
  intro L i hc hp k hk j hj
  have hk' : (k == i || L k) = true := hk
  have : L j = true := by
   by_cases e : k = i
   · subst e; exact hp j hj
   · exact hc k (by simpa [e] using hk') j hj
  show (j == i || L j) = true
  rw [this]; simp
 have hfin : ∀ (L : Nat → Bool) f w, (∀ i d, dstN ops i = some d → L i = true → lkG gs i (f d) w) → (∀ j, j < m → L j = true) → FinF gs f w ps := by
  intro L f w hL hj
  clear h
  induction ps with
  | nil => trivial
  | cons p ps ih =>
   simp only [List.all_cons, Bool.and_eq_true] at hps
   obtain ⟨⟨h1, h2⟩, h3⟩ := hps
   have hj' : p.1 + p.2.2 + 1 = m := by simpa using h1
   have h5 := hL p.1 p.2.1 (by simpa using h2) (hj _ (by omega))
   unfold lkG at h5
   rw [if_pos (by omega), show gs.length - 1 - p.1 = p.2.2 by omega] at h5
   exact ⟨⟨f p.2.1, rfl, h5⟩, ih h3⟩
 refine region_inv (fun L a w => ClosedL ops L ∧ ((∃ f, a = { tmps := regT base slots f, defers := df } ∧ Below W0.heap.size W0 w ∧ (∀ i d, dstN ops i = some d → L i = true → lkG gs i (f d) w) ∧ ∀ i, m ≤ i → L i = false) ∨
  ∃ i0, m < i0 ∧ (∀ j, j < i0 → L j = true) ∧ (∀ j, i0 ≤ j → L j = false) ∧ wpList P ops Q (ops.toList.drop i0) a w)) hm hup
  ⟨(fun _ h => by cases h), .inl ⟨fun k => base.getD k undef, by rw [regT_id], (Below.refl _ _).drew, fun _ _ _ h => (by cases h), fun _ _ => rfl⟩⟩ ?_ ?_
 · rintro i hi L a w ⟨hc, hAB⟩ hLi hpre
   have hc' := hclo L i hc hpre
   rcases hAB with ⟨f, rfl, hW, hL, hno⟩ | ⟨i0, hi0, hle, hge, hwl⟩
   · by_cases him : i < m
     · obtain ⟨h1, h2⟩ := hall i (by omega)
       refine h2 f w hW (fun j hj d e => hL j d e (hpre j hj)) _ fun v w' hg hb => ⟨hc', .inl ?_⟩
       have hW' := hW.trans (hb.mono hW.size)
       have hno' : ∀ k, m ≤ k → (k == i || L k) = false := fun k hk => by rw [hno k hk]; simp; omega
       cases hdi : dstN ops i with
       | none =>
        refine ⟨f, rfl, hW', fun j d e hj => ?_, hno'⟩
        have hne : j ≠ i := fun e' => by rw [e', hdi] at e; cases e
        have hLj : L j = true := by simpa [hne] using hj
        have hjm : j < m := by
         rcases Nat.lt_or_ge j m with hh | hh
         · exact hh
         · rw [hno j hh] at hLj; cases hLj
        exact (hall j (by omega)).1 _ _ _ (hL j d e hLj) hb
       | some di =>
        refine ⟨updF f di v, ?_, hW', fun j d e hj => ?_, hno'⟩
        · show ({ tmps := (regT base slots f).setIfInBounds di v, defers := df } : Act) = _
          rw [regT_put _ _ _ _ _ (hsl i di hdi)]
        · unfold updF
          by_cases hne : j = i
          · subst hne
            rw [hdi] at e
            cases e
            rw [if_pos rfl]
            exact hg
          · have h3 : d ≠ di := fun e' => hne (hinj j i d e (e' ▸ hdi))
            rw [if_neg h3]
            have hLj : L j = true := by simpa [hne] using hj
            have hjm : j < m := by
             rcases Nat.lt_or_ge j m with hh | hh
             · exact hh
             · rw [hno j hh] at hLj; cases hLj
            exact (hall j (by omega)).1 _ _ _ (hL j d e hLj) hb
     · have hr := hreach L hc i hi (by omega) hpre
       have him' : i = m := by
        rcases Nat.lt_or_ge m i with hh | hh
        · have := hr m hh; rw [hno m (Nat.le_refl _)] at this; cases this
        · omega
       subst him'
       refine wpOp_mono (fun a' w' hk => ⟨hc', .inr ⟨i + 1, by omega, fun j hj => ?_, fun j hj => ?_, hk⟩⟩) (wpList_wpOp hi (h f w hW (hfin L f w hL hr)))
       · by_cases e : j = i
         · subst e; simp
         · have := hr j (by omega); show (j == i || L j) = true; rw [this]; simp
       · show (j == i || L j) = false
         rw [hno j (by omega)]; simp; omega
   · have hi0' : i0 ≤ i := by
      rcases Nat.lt_or_ge i i0 with hh | hh
      · rw [hle i hh] at hLi; cases hLi
      · exact hh
     have hr := hreach L hc i hi (by omega) hpre
     have hii : i = i0 := by
      rcases Nat.lt_or_ge i0 i with hh | hh
      · have := hr i0 hh; rw [hge i0 (Nat.le_refl _)] at this; cases this
      · omega
     subst hii
     refine wpOp_mono (fun a' w' hk => ⟨hc', .inr ⟨i + 1, by omega, fun j hj => ?_, fun j hj => ?_, hk⟩⟩) (wpList_wpOp hi hwl)
     · by_cases e : j = i
       · subst e; simp
       · have := hle j (by omega); show (j == i || L j) = true; rw [this]; simp
     · show (j == i || L j) = false
       rw [hge j (by omega)]; simp; omega
 · rintro L a w ⟨hc, hAB⟩ hLall
   rcases hAB with ⟨f, rfl, hW, hL, hno⟩ | ⟨i0, hi0, hle, hge, hwl⟩
   · have hmn' : ops.size ≤ m := by
      rcases Nat.lt_or_ge m ops.size with hh | hh
      · have := hLall m hh; rw [hno m (Nat.le_refl _)] at this; cases this
      · exact hh
     have := h f w hW (hfin L f w hL (fun j hj => hLall j (by omega)))
     rw [List.drop_eq_nil_of_le (by simpa using hmn')] at this
     exact this
   · have hn : ops.size ≤ i0 := by
      rcases Nat.lt_or_ge i0 ops.size with hh | hh
      · have := hLall i0 hh; rw [hge i0 (Nat.le_refl _)] at this; cases this
      · exact hh
     rw [List.drop_eq_nil_of_le (by simpa using hn)] at hwl
     exact hwl
end
end Go.Proofs.YtjlliohjeiclaaaGreatDoor
