
/- Walks: the chapter's frame, as the reference writes it. -/
import Derived.Test.YtpbjhfajekfjeaaFrameW4
import Derived.Test.YtpbjhfajekfjeaaCrcW2
namespace Go.Proofs.Ytpbjhfajekfjeaa
open Go.RowKit Frm
def Frm.four (m : Nat) : List UInt8 := [b8 (m / 16777216), b8 (m / 65536), b8 (m / 256), b8 m]
theorem ref4_word (m : Nat) (w : World) (hm : m < 4294967296) : Calls Try.prog 25 #[.int .u32 (m : Int)] w fun e w' => e = .returned (.slice (some ⟨w.heap.size, 0, none⟩) 4 4) ∧ w' = w.alloc (.cells (bvs (four m)).toArray 5) := by
  have e1 : (m : Int) / 16777216 = ((b8 (m / 16777216)).toNat : Int) := by rw [← b8_24]; omega
  have e2 := b8_16 m
  have e3 := b8_8 m
  have e4 := b8_int m
  have HE := Lib.hid (And.intro e1 (And.intro e2 (And.intro e3 e4)))
  clear e1 e2 e3 e4
  go_enter Try.func25, Try.ntmps25
  go_wp2_with fail
  go_ret
  obtain ⟨e1, e2, e3, e4⟩ := HE.out
  refine ⟨rfl, ?_⟩
  simp only [bvs, four, List.map_cons, List.map_nil]
  rw [← e1, ← e2, ← e3, ← e4]
theorem own_src {P : Program} {w : World} {B : Nat} {e : TypeId} {v : Value} {l : List UInt8} (h : w.ownsRow B e 1 v l.length (bvs l)) {tx e' : TypeId} (hk : P.underlying tx = some (.slice e')) : Src P 1 tx v l.length (bvs l) w := by
  obtain ⟨a, c, rfl⟩ := own_shape h
  exact (own_bytes h).src hk c
set_option maxHeartbeats 1000000 in
theorem ref4_Put (k : Nat) (body : List UInt8) (a : Option Addr) (cap : Nat) (w : World) (hk : k ≤ 255) (hb : BytesAt w a body) (hn : body.length ≤ 16777216) :
    Calls Try.prog 15 #[.int .i64 (k : Int), .slice a body.length cap] w fun e w' => ∃ v, e = .returned v ∧ w'.ownsRow w.heap.size 5 1 v (frameF k body).length (bvs (frameF k body)) ∧ Below w.heap.size w w' := by
  have HB := Lib.hid hb; clear hb
  have BT := Lib.hid byteT
  go_enter Try.func15, Try.ntmps15
  go_wp2_with fail
  refine (ref4_word body.length _ (by omega)).mono ?_
  rintro e w2 ⟨rfl, hw2⟩
  have HX : Hid (be4 (Crc.sum (hd k body.length ++ body)) = four (Crc.sum (hd k body.length ++ body)).toNat) := Lib.hid rfl
  have hk8 : ((k : Int)) = ((b8 k).toNat : Int) := by rw [← b8_int]; omega
  have D2 : Hid (Below w.heap.size w w2) := Lib.hid (by rw [hw2]; exact ((Below.refl _ w).alloc (Nat.le_refl _) _).alloc (by simp) _)
  have O2 : Hid (w2.ownsRow w.heap.size 5 1 (.slice (some ⟨w.heap.size, 0, none⟩) [b8 k].length 1) [b8 k].length (bvs [b8 k])) := Lib.hid (by
    rw [hw2, hk8]; exact (own_new w w.heap.size 5 (bvs [b8 k]) (Nat.le_refl _) (by simp [bvs, maxLen])).alloc _)
  have B2 : Hid (BytesAt w2 (some ⟨w.heap.size + 1, 0, none⟩) (four body.length)) := Lib.hid (by
    rw [hw2, ← World.size_alloc w (.cells #[.int .u8 (k : Int)] 5)]; exact BytesAt.fresh _ _ (0, 0) (four body.length) _ rfl)
  rw [World.size_alloc]
  have S2 : Hid (w.heap.size ≤ w2.heap.size) := Lib.hid D2.out.size
  clear hw2 hk8
  go_wp2_with (first
    | (at_builtin; refine wpList_appb rfl _ _ 22 22 rfl w.heap.size 5 BT.out (.slice (some ⟨w.heap.size, 0, none⟩) 1 1) [b8 k] rfl O2.out (.slice (some ⟨w.heap.size + 1, 0, none⟩) 4 4) (four body.length) rfl (B2.out.src Try.underlying22 4) (by simp [four]) S2.out ?_; intro v1 w3 hown1 _ hb1 _; have O3 := Lib.hid hown1; have D3 := Lib.hid (D2.out.trans hb1); clear hown1 hb1; obtain ⟨a1, c1, rfl⟩ := own_shape O3.out; have L3 : Hid (([b8 k] ++ four body.length) = hd k body.length) := Lib.hid rfl; rw [L3.out] at O3 ⊢)
    | (at_builtin; refine wpList_appb rfl _ _ 22 22 rfl w3.heap.size 5 BT.out (.slice none 0 0) [] rfl (World.ownsRow_nil _ _ _ _) _ (hd k body.length) rfl (own_src O3.out Try.underlying22) (by simp [hd]) (Nat.le_refl _) ?_; intro v2 w4 hown2 _ hb2 _; have O4 := Lib.hid hown2; have E4 := Lib.hid hb2; clear hown2 hb2; have D4 := Lib.hid (D3.out.trans (E4.out.mono D3.out.size)))
    | (at_builtin; refine wpList_appb rfl _ _ 22 22 rfl w3.heap.size 5 BT.out v2 ([] ++ hd k body.length) rfl O4.out _ body rfl ((HB.out.below D4.out rfl).src Try.underlying22 cap) (by simp [hd]; omega) E4.out.size ?_; intro v3 w5 hown3 _ hb3 _; have O5 := Lib.hid hown3; have E5 := Lib.hid (E4.out.trans hb3); clear hown3 hb3; have D5 := Lib.hid (D3.out.trans (E5.out.mono D3.out.size)); obtain ⟨a3, c3, rfl⟩ := own_shape O5.out))
  refine (ref_Sum ([] ++ hd k body.length ++ body) _ _ _ _ (own_bytes O5.out) (by simp) (by simp [hd]; omega)).mono ?_
  rintro e w6 ⟨rfl, rfl⟩
  rw [List.nil_append] at O5 ⊢
  obtain ⟨x, hx⟩ : ∃ x, Crc.sum (hd k body.length ++ body) = x := ⟨_, rfl⟩
  rw [hx]
  have HXX := Lib.hid hx
  clear hx
  go_wp2_with fail
  refine (ref4_word x.toNat _ (by have := x.isLt; omega)).mono ?_
  rintro e w7 ⟨rfl, hw7⟩
  have O7 : Hid (w7.ownsRow w.heap.size 5 1 (.slice a1 (hd k body.length).length c1) (hd k body.length).length (bvs (hd k body.length))) := Lib.hid (by
    rw [hw7]; exact (own_below O3.out E5.out (own_lt O3.out)).alloc _)
  have B7 : Hid (BytesAt w7 (some ⟨w5.heap.size, 0, none⟩) (four x.toNat)) := Lib.hid (by
    rw [hw7]; exact BytesAt.fresh _ _ (0, 0) (four x.toNat) _ rfl)
  have D7 : Hid (Below w.heap.size w w7) := Lib.hid (by rw [hw7]; exact D5.out.alloc D5.out.size _)
  clear hw7
  go_wp2_with (first
    | (at_builtin; refine wpList_appb rfl _ _ 22 22 rfl w.heap.size 5 BT.out (.slice a1 (hd k body.length).length c1) (hd k body.length) rfl O7.out (.slice (some ⟨w5.heap.size, 0, none⟩) 4 4) (four x.toNat) rfl (B7.out.src Try.underlying22 4) (by simp [four, hd]) D7.out.size ?_; intro v4 w8 hown4 _ hb4 _; have O8 := Lib.hid hown4; have D8 := Lib.hid (D7.out.trans hb4); clear hown4 hb4)
    | (at_builtin; refine wpList_appb rfl _ _ 22 22 rfl w.heap.size 5 BT.out v4 (hd k body.length ++ four x.toNat) rfl O8.out _ body rfl ((HB.out.below D8.out rfl).src Try.underlying22 cap) (by simp [four, hd]; omega) D8.out.size ?_; intro v5 w9 hown5 _ hb5 _; have O9 := Lib.hid hown5; have D9 := Lib.hid (D8.out.trans hb5); clear hown5 hb5))
  go_ret
  refine ⟨_, rfl, ?_, D9.out⟩
  have hfr : frameF k body = hd k body.length ++ four x.toNat ++ body := by rw [← HXX.out]; rfl
  rw [hfr]; exact O9.out
end Go.Proofs.Ytpbjhfajekfjeaa

