/- Words, contracts and walks that the proof stands on (KsC Tr StP ElP SvP KuC TxP Inv). -/
import Derived.Lib.Bytealg
import Derived.Sort.Walk0
import Derived.Test.YtkjchoamdibolaaDoorKC1
namespace Go.Proofs.YtkjchoamdibolaaDoor
open Go.RowKit Ku
theorem idx_str (s : ByteArray) (i : Nat) (x : Int) (hx : x = (i : Int)) (hi : i < s.size) (w : World) : (Instr.index 9 (.string s) (.int .i64 x)).run Tryd.prog w = .ok (.int .u8 ((s.get! i).toNat : Int)) w := by
 subst hx
 rw [run_index_string w _ _ _ _ Tryd.underlying9, dif_pos ⟨by omega, by omega⟩]
 simp [hi, ByteArray.get!, getElem!_pos]
 rfl
def intsV (L : List Nat) : List Value := L.map fun (c : Nat) => Value.int .i64 (c : Int)
def okC (c : Nat) : Bool := decide (32 ≤ c) && decide (c ≠ 47)
theorem inT : ElemT Tryd.prog 71 3 (.int .i64 0) 1 8 := ElemT.mk Tryd.underlying71 (by kernel_rfl) (by simp [Value.cells])
theorem acc_step {A B d p : Nat} (h : A + 3 ≤ B * p) (u : d < 256) : 64 * A + d - 128 + 3 ≤ B * (p * 64) := by
 rw [← Nat.mul_assoc]
 omega
set_option maxRecDepth 100000 in
theorem accN_succ (s : ByteArray) (pos c0 k : Nat) : accN s pos c0 (k + 1) = 64 * accN s pos c0 k + (s.get! (pos + (k + 1))).toNat - 128 := rfl
theorem accN_zero (s : ByteArray) (pos c0 : Nat) : accN s pos c0 0 = c0 := rfl
theorem accN_le (s : ByteArray) (pos c0 k : Nat) : accN s pos c0 k + 3 ≤ (c0 + 3) * 64 ^ k := by
 induction k with
 | zero => rw [accN_zero, Nat.pow_zero, Nat.mul_one]; exact Nat.le_refl _
 | succ k ih =>
  have h := acc_step ih (u8_lt s (pos + (k + 1)))
  rw [Nat.pow_succ, accN_succ]
  exact h
theorem accN_sm (s : ByteArray) (pos c0 k : Nat) (hk : k ≤ 3) (hc : c0 ≤ 31) : accN s pos c0 k ≤ 10000000 := by
 have h := accN_le s pos c0 k
 have h2 : (c0 + 3) * 64 ^ k ≤ 34 * 64 ^ 3 := Nat.mul_le_mul (by omega) (Nat.pow_le_pow_right (by omega) hk)
 omega
theorem i64s {a : Int} (h1 : -9223372036854775808 ≤ a) (h2 : a ≤ 9223372036854775807) : IntKind.i64.wrap a = a := by
 simp [IntKind.wrap, IntKind.bits, IntKind.signed]; omega
theorem good_up {s : ByteArray} {pos n c : Nat} {L : List Nat} (HA : L.all okC = true ↔ ∀ i, i < pos → goodB (s.get! i) = true) (h : okC c = true ↔ ∀ i, pos ≤ i → i < pos + n → goodB (s.get! i) = true) :
 (L ++ [c]).all okC = true ↔ ∀ i, i < pos + n → goodB (s.get! i) = true := by
 rw [List.all_append, Bool.and_eq_true, HA, List.all_cons, List.all_nil, Bool.and_true, h]
 constructor
 · rintro ⟨h1, h2⟩ i hi
   by_cases k : i < pos
   · exact h1 i k
   · exact h2 i (by omega) hi
 · exact fun h => ⟨fun i hi => h i (by omega), fun i _ hi => h i hi⟩
set_option maxRecDepth 100000 in
set_option maxHeartbeats 4000000 in
theorem ref5_runes (s : ByteArray) (w : World) (hs : s.size ≤ 1000) :
 Calls Tryd.prog 43 #[.string s] w fun e w' => Below w.heap.size w w' ∧ ((Lib.validD s.data.toList = false ∧ e = .returned (.tuple #[.slice none 0 0, .bool false])) ∨
  (Lib.validD s.data.toList = true ∧ ∃ (L : List Nat) (a : Option Addr) (n c : Nat), e = .returned (.tuple #[.slice a n c, .bool true]) ∧ n = L.length ∧ n ≤ 1000 ∧ CellsAt w' a (intsV L) ∧ (L.all okC = allG s))) := by
 have HS := Lib.hid hs
 have IT := Lib.hid inT
 obtain ⟨va, hva⟩ : ∃ r, Lib.validD s.data.toList = r := ⟨_, rfl⟩
 have VA : Hid (Lib.validD (s.data.toList.drop 0) = va) := Lib.hid (by rw [valid_all]; exact hva)
 rw [hva]
 clear hs hva
 go_enter Tryd.func43, Tryd.ntmps43
 go_wp2_with fail
 go_loopw [4, 5] (fun v i wr => ∃ (pos : Nat) (L : List Nat), pos ≤ s.size ∧ i = .int .i64 (pos : Int) ∧ Hid (wr.ownsRow w.heap.size 3 1 v L.length (intsV L)) ∧ Hid (L.length ≤ pos) ∧ Hid (L.all okC = true ↔ ∀ i, i < pos → goodB (s.get! i) = true) ∧ Hid (Lib.validD (s.data.toList.drop pos) = va) ∧ Hid (Below w.heap.size w wr)) (fun _ i _ => s.size - (intOf i).toNat)
 case atStart => exact ⟨0, [], Nat.zero_le _, rfl, Lib.hid ⟨rfl, Or.inl ⟨rfl, rfl⟩⟩, Lib.hid (Nat.le_refl _), Lib.hid (by simp), VA, Lib.hid (Below.refl _ _)⟩
 case round =>
  obtain ⟨pos, L, hps, rfl, HO, HLL, HA, HV, HB⟩ := hrel
  obtain ⟨so, co, hsv, _, _⟩ := own_slice HO.out
  subst hsv
  by_cases hp : pos < s.size
  · have hpi : (pos : Int) < (s.size : Int) := by omega
    have hs1000 : s.size ≤ 1000 := HS.out
    have IX0 := fun W => idx_str s pos (pos : Int) rfl hp W
    obtain ⟨b, hbv⟩ : ∃ b, (s.get! pos).toNat = b := ⟨_, rfl⟩
    rw [hbv] at IX0
    have hb256 : b < 256 := by rw [← hbv]; exact u8_lt s pos
    have BV := Lib.hid hbv
    have IX := Lib.hid IX0
    have VS := Lib.hid (valid_step s pos hp)
    have HWS := Lib.hid HB.out.size
    have HLS : L.length ≤ 1000 := by have := HLL.out; omega
    clear hbv IX0
    by_cases k1 : b < 128
    · have k1i : (b : Int) < 128 := by omega
      have DE : Hid (Utf8.decode s pos = (b, 1)) := Lib.hid (by rw [Lib.decode_at, BV.out]; unfold Lib.decodeN; rw [if_pos k1])
      have HV6 : Hid (Lib.validD (s.data.toList.drop (pos + 1)) = va) := Lib.hid (by rw [← HV.out, VS.out, DE.out, if_neg (by intro h; have := congrArg Prod.fst h; simp at this; omega)])
      have HA6 : Hid ((L ++ [b]).all okC = true ↔ ∀ i, i < pos + 1 → goodB (s.get! i) = true) := Lib.hid (good_up HA.out (by
       constructor
       · intro h i h1 h2
         rw [show i = pos by omega]
         unfold goodB; rw [BV.out]; exact h
       · intro h
         have := h pos (Nat.le_refl _) (by omega)
         unfold goodB at this; rw [BV.out] at this; exact this))
      have ix := IX.out
      have hw1 : IntKind.i64.wrap ((pos : Int) + 1) = (pos : Int) + 1 := i64s (by omega) (by omega)
      have hle : ¬ ((s.size : Int) < (pos : Int) + 1) := by omega
      go_wp2_with fail
      go_loopw [6, 9] (fun cv kv wX => cv = .int .i64 (b : Int) ∧ kv = .int .i64 1 ∧ wX = wr) (fun _ _ _ => 0)
      case atStart => exact ⟨rfl, rfl, rfl⟩
      case round =>
       obtain ⟨rfl, rfl, rfl⟩ := hrel
       have hn0 : ¬ (b : Int) < 0 := by omega
       have hn1 : ¬ (1114111 : Int) < (b : Int) := by omega
       have hn2 : ¬ (55296 : Int) ≤ (b : Int) := by omega
       go_wp2_with (at_builtin; go_must (refine wpList_app rfl _ _ 71 71 rfl w.heap.size 3 _ 1 8 IT.out (.slice so L.length co) L.length (intsV L) rfl (HO.out.alloc _) _ 1 [.int .i64 (b : Int)] rfl ((CellsAt.new wr 3 (0, 0) [.int .i64 (b : Int)]).srcN rfl (by simp [Value.oneCell']) Tryd.underlying71 1 (by decide)) (by omega) (by omega) (by have := HWS.out; simp; omega) ?_); go_must (intro v6 w6 hown _ hbel _))
       have HO6 : Hid (w6.ownsRow w.heap.size 3 1 v6 (L ++ [b]).length (intsV (L ++ [b]))) := Lib.hid (by rw [List.length_append]; unfold intsV at hown ⊢; rw [List.map_append]; exact hown)
       have HB6 := Lib.hid ((HB.out.alloc HWS.out _).trans hbel)
       clear hown hbel
       go_wp2_with fail
       go_roundw
       case rel => exact ⟨pos + 1, L ++ [b], by omega, by go_num, HO6, Lib.hid (by rw [List.length_append]; have := HLL.out; simp; omega), HA6, HV6, HB6⟩
       case measure => simp [intOf]; omega
    · have k1i : ¬ (b : Int) < 128 := by omega
      by_cases c1 : b < 192
      · have c1i : ¬ (192 : Int) ≤ (b : Int) := by omega
        have c2i : ¬ (224 : Int) ≤ (b : Int) := by omega
        have c3i : ¬ (240 : Int) ≤ (b : Int) := by omega
        have DB : Hid (Utf8.decode s pos = (65533, 1)) := Lib.hid (dec_bad s pos (by rw [BV.out]; omega) (by rw [BV.out]; omega))
        have ix := IX.out
        obtain rfl : false = va := by rw [← HV.out, VS.out, if_pos DB.out]
        go_wp2_with fail
        go_ret2
        exact ⟨HB.out, rfl⟩
      have c1i : (192 : Int) ≤ (b : Int) := by omega
      by_cases c2 : b < 224
      · have c2i : (b : Int) < 224 := by omega
        have DM := Lib.hid (dec_multi s pos 2 (b - 192) 128 (by rw [BV.out]; unfold Cls; omega))
        have hw0 : IntKind.i64.wrap ((b : Int) - 192) = (b : Int) - 192 := i64s (by omega) (by omega)
        have hw1 : IntKind.i64.wrap ((pos : Int) + 2) = (pos : Int) + 2 := i64s (by omega) (by omega)
        have ix := IX.out
        by_cases hn : s.size < pos + 2
        · have hni : (s.size : Int) < (pos : Int) + 2 := by omega
          have DB : Hid (Utf8.decode s pos = (65533, 1)) := Lib.hid (DM.out.2 fun d => by have := d.len; omega)
          obtain rfl : false = va := by rw [← HV.out, VS.out, if_pos DB.out]
          go_wp2_with fail
          go_ret2
          exact ⟨HB.out, rfl⟩
        have hni : ¬ (s.size : Int) < (pos : Int) + 2 := by omega
        go_wp2_with fail
        clear ix
        go_loopw [6, 9] (fun cv kv wX => ∃ k : Nat, 1 ≤ k ∧ k ≤ 2 ∧ kv = .int .i64 (k : Int) ∧ cv = .int .i64 ((accN s pos (b - 192) (k - 1) : Nat) : Int) ∧ Hid (∀ j, 1 ≤ j → j < k → Cont s pos j) ∧ wX = wr) (fun _ kv _ => 2 - (intOf kv).toNat)
        case atStart => exact ⟨1, by omega, by omega, rfl, by show _ = Value.int .i64 ((b - 192 : Nat) : Int); congr 1; omega, Lib.hid (fun j h1 h2 => by omega), rfl⟩
        case round =>
         obtain ⟨k, hk1, hkn, rfl, rfl, HC, rfl⟩ := hrel
         by_cases hk : k < 2
         · have hki : (k : Int) < 2 := by omega
           have IK0 := fun W => idx_str s (pos + k) ((pos : Int) + (k : Int)) (by omega) (by omega) W
           obtain ⟨d, hd⟩ : ∃ d, (s.get! (pos + k)).toNat = d := ⟨_, rfl⟩
           rw [hd] at IK0
           have hd256 : d < 256 := by rw [← hd]; exact u8_lt s _
           have DV := Lib.hid hd
           have EA : Hid (accN s pos (b - 192) (k + 1 - 1) = 64 * accN s pos (b - 192) (k - 1) + d - 128) := Lib.hid (by
            obtain ⟨m, rfl⟩ : ∃ m, k = m + 1 := ⟨k - 1, by omega⟩
            rw [← hd]
            rfl)
           have HSM : accN s pos (b - 192) (k - 1) ≤ 10000000 := accN_sm _ _ _ _ (by omega) (by omega)
           generalize accN s pos (b - 192) (k - 1) = q at *
           clear hd
           have hw2 : IntKind.i64.wrap ((pos : Int) + (k : Int)) = (pos : Int) + (k : Int) := i64s (by omega) (by omega)
           by_cases d1 : d < 128
           · have d1i : (d : Int) < 128 := by omega
             have DB : Hid (Utf8.decode s pos = (65533, 1)) := Lib.hid (DM.out.2 fun D => by have := (D.cont k hk1 hk).1; rw [DV.out] at this; omega)
             obtain rfl : false = va := by rw [← HV.out, VS.out, if_pos DB.out]
             go_wp2_with fail
             go_ret2
             exact ⟨HB.out, rfl⟩
           · have d1i : ¬ (d : Int) < 128 := by omega
             by_cases d2 : 192 ≤ d
             · have d2i : (192 : Int) ≤ (d : Int) := by omega
               have DB : Hid (Utf8.decode s pos = (65533, 1)) := Lib.hid (DM.out.2 fun D => by have := (D.cont k hk1 hk).2; rw [DV.out] at this; omega)
               obtain rfl : false = va := by rw [← HV.out, VS.out, if_pos DB.out]
               go_wp2_with fail
               go_ret2
               exact ⟨HB.out, rfl⟩
             · have d2i : ¬ (192 : Int) ≤ (d : Int) := by omega
               have hw3 : IntKind.i64.wrap (64 * (q : Int)) = 64 * (q : Int) := i64s (by omega) (by omega)
               have hw4 : IntKind.i64.wrap (64 * (q : Int) + (d : Int)) = 64 * (q : Int) + (d : Int) := i64s (by omega) (by omega)
               have hw5 : IntKind.i64.wrap (64 * (q : Int) + (d : Int) - 128) = 64 * (q : Int) + (d : Int) - 128 := i64s (by omega) (by omega)
               have HC2 : Hid (∀ j, 1 ≤ j → j < k + 1 → Cont s pos j) := Lib.hid (fun j j1 j2 => by
                by_cases h : j < k
                · exact HC.out j j1 h
                · rw [show j = k by omega]; unfold Cont; rw [DV.out]; omega)
               go_wp2_with fail
               go_roundw
               case rel => exact ⟨k + 1, by omega, by omega, by go_num, by rw [EA.out]; congr 1; omega, HC2, by trivial⟩
               case measure => simp [intOf]; omega
         · have hkk : k = 2 := by omega
           have hki : ¬ (k : Int) < 2 := by omega
           obtain ⟨q, hq⟩ : ∃ q, accN s pos (b - 192) (k - 1) = q := ⟨_, rfl⟩
           have QV : Hid (accN s pos (b - 192) (2 - 1) = q) := Lib.hid (by rw [← hq, hkk])
           have CV : Hid (∀ j, 1 ≤ j → j < 2 → Cont s pos j) := Lib.hid (by rw [← hkk]; exact HC.out)
           rw [hq]
           clear hq HC hkk
           by_cases g1 : q < 128
           · have g1i : (q : Int) < 128 := by omega
             have DB : Hid (Utf8.decode s pos = (65533, 1)) := Lib.hid (DM.out.2 fun D => by have := D.lo; rw [QV.out] at this; omega)
             obtain rfl : false = va := by rw [← HV.out, VS.out, if_pos DB.out]
             go_wp2_with fail
             go_ret2
             exact ⟨HB.out, rfl⟩
           have g1i : ¬ (q : Int) < 128 := by omega
           by_cases g2 : 1114111 < q
           · have g2i : (1114111 : Int) < (q : Int) := by omega
             have DB : Hid (Utf8.decode s pos = (65533, 1)) := Lib.hid (DM.out.2 fun D => by have := D.hi; rw [QV.out] at this; omega)
             obtain rfl : false = va := by rw [← HV.out, VS.out, if_pos DB.out]
             go_wp2_with fail
             go_ret2
             exact ⟨HB.out, rfl⟩
           have g2i : ¬ (1114111 : Int) < (q : Int) := by omega
           by_cases g3 : 55296 ≤ q ∧ q ≤ 57343
           · have g3i : (55296 : Int) ≤ (q : Int) := by omega
             have g3j : (q : Int) ≤ 57343 := by omega
             have DB : Hid (Utf8.decode s pos = (65533, 1)) := Lib.hid (DM.out.2 fun D => by have := D.su; rw [QV.out] at this; exact this g3)
             obtain rfl : false = va := by rw [← HV.out, VS.out, if_pos DB.out]
             go_wp2_with fail
             go_ret2
             exact ⟨HB.out, rfl⟩
           have DE : Hid (Utf8.decode s pos = (q, 2)) := Lib.hid (by rw [← QV.out]; exact DM.out.1 ⟨by omega, CV.out, by rw [QV.out]; omega, by rw [QV.out]; omega, by rw [QV.out]; exact g3⟩)
           have HV6 : Hid (Lib.validD (s.data.toList.drop (pos + 2)) = va) := Lib.hid (by rw [← HV.out, VS.out, DE.out, if_neg (by intro h; have := congrArg Prod.snd h; simp at this)])
           have HA6 : Hid ((L ++ [q]).all okC = true ↔ ∀ i, i < pos + 2 → goodB (s.get! i) = true) := Lib.hid (good_up HA.out (by
            constructor
            · intro _ i h1 h2
              by_cases h : i = pos
              · rw [h]; exact good_high (by rw [BV.out]; omega)
              · have := (CV.out (i - pos) (by omega) (by omega)).1
                rw [show pos + (i - pos) = i by omega] at this
                exact good_high this
            · intro _
              unfold okC
              rw [decide_eq_true (by omega), decide_eq_true (by omega)]
              rfl))
           by_cases g4 : 55296 ≤ q
           · have g4i : (55296 : Int) ≤ (q : Int) := by omega
             have g5i : ¬ (q : Int) ≤ 57343 := by omega
             go_wp2_with (at_builtin; go_must (refine wpList_app rfl _ _ 71 71 rfl w.heap.size 3 _ 1 8 IT.out (.slice so L.length co) L.length (intsV L) rfl (HO.out.alloc _) _ 1 [.int .i64 (q : Int)] rfl ((CellsAt.new wr 3 (0, 0) [.int .i64 (q : Int)]).srcN rfl (by simp [Value.oneCell']) Tryd.underlying71 1 (by decide)) (by omega) (by omega) (by have := HWS.out; simp; omega) ?_); go_must (intro v6 w6 hown _ hbel _))
             have HO6 : Hid (w6.ownsRow w.heap.size 3 1 v6 (L ++ [q]).length (intsV (L ++ [q]))) := Lib.hid (by rw [List.length_append]; unfold intsV at hown ⊢; rw [List.map_append]; exact hown)
             have HB6 := Lib.hid ((HB.out.alloc HWS.out _).trans hbel)
             clear hown hbel
             go_wp2_with fail
             go_roundw
             case rel => exact ⟨pos + 2, L ++ [q], by omega, by go_num, HO6, Lib.hid (by rw [List.length_append]; have := HLL.out; simp; omega), HA6, HV6, HB6⟩
             case measure => simp [intOf]; omega
           · have g4i : ¬ (55296 : Int) ≤ (q : Int) := by omega
             go_wp2_with (at_builtin; go_must (refine wpList_app rfl _ _ 71 71 rfl w.heap.size 3 _ 1 8 IT.out (.slice so L.length co) L.length (intsV L) rfl (HO.out.alloc _) _ 1 [.int .i64 (q : Int)] rfl ((CellsAt.new wr 3 (0, 0) [.int .i64 (q : Int)]).srcN rfl (by simp [Value.oneCell']) Tryd.underlying71 1 (by decide)) (by omega) (by omega) (by have := HWS.out; simp; omega) ?_); go_must (intro v6 w6 hown _ hbel _))
             have HO6 : Hid (w6.ownsRow w.heap.size 3 1 v6 (L ++ [q]).length (intsV (L ++ [q]))) := Lib.hid (by rw [List.length_append]; unfold intsV at hown ⊢; rw [List.map_append]; exact hown)
             have HB6 := Lib.hid ((HB.out.alloc HWS.out _).trans hbel)
             clear hown hbel
             go_wp2_with fail
             go_roundw
             case rel => exact ⟨pos + 2, L ++ [q], by omega, by go_num, HO6, Lib.hid (by rw [List.length_append]; have := HLL.out; simp; omega), HA6, HV6, HB6⟩
             case measure => simp [intOf]; omega
      have c2i : ¬ (b : Int) < 224 := by omega
      have c2j : (224 : Int) ≤ (b : Int) := by omega
      by_cases c3 : b < 240
      · have c3i : (b : Int) < 240 := by omega
        have DM := Lib.hid (dec_multi s pos 3 (b - 224) 2048 (by rw [BV.out]; unfold Cls; omega))
        have hw0 : IntKind.i64.wrap ((b : Int) - 224) = (b : Int) - 224 := i64s (by omega) (by omega)
        have hw1 : IntKind.i64.wrap ((pos : Int) + 3) = (pos : Int) + 3 := i64s (by omega) (by omega)
        have ix := IX.out
        by_cases hn : s.size < pos + 3
        · have hni : (s.size : Int) < (pos : Int) + 3 := by omega
          have DB : Hid (Utf8.decode s pos = (65533, 1)) := Lib.hid (DM.out.2 fun d => by have := d.len; omega)
          obtain rfl : false = va := by rw [← HV.out, VS.out, if_pos DB.out]
          go_wp2_with fail
          go_ret2
          exact ⟨HB.out, rfl⟩
        have hni : ¬ (s.size : Int) < (pos : Int) + 3 := by omega
        go_wp2_with fail
        clear ix
        go_loopw [6, 9] (fun cv kv wX => ∃ k : Nat, 1 ≤ k ∧ k ≤ 3 ∧ kv = .int .i64 (k : Int) ∧ cv = .int .i64 ((accN s pos (b - 224) (k - 1) : Nat) : Int) ∧ Hid (∀ j, 1 ≤ j → j < k → Cont s pos j) ∧ wX = wr) (fun _ kv _ => 3 - (intOf kv).toNat)
        case atStart => exact ⟨1, by omega, by omega, rfl, by show _ = Value.int .i64 ((b - 224 : Nat) : Int); congr 1; omega, Lib.hid (fun j h1 h2 => by omega), rfl⟩
        case round =>
         obtain ⟨k, hk1, hkn, rfl, rfl, HC, rfl⟩ := hrel
         by_cases hk : k < 3
         · have hki : (k : Int) < 3 := by omega
           have IK0 := fun W => idx_str s (pos + k) ((pos : Int) + (k : Int)) (by omega) (by omega) W
           obtain ⟨d, hd⟩ : ∃ d, (s.get! (pos + k)).toNat = d := ⟨_, rfl⟩
           rw [hd] at IK0
           have hd256 : d < 256 := by rw [← hd]; exact u8_lt s _
           have DV := Lib.hid hd
           have EA : Hid (accN s pos (b - 224) (k + 1 - 1) = 64 * accN s pos (b - 224) (k - 1) + d - 128) := Lib.hid (by
            obtain ⟨m, rfl⟩ : ∃ m, k = m + 1 := ⟨k - 1, by omega⟩
            rw [← hd]
            rfl)
           have HSM : accN s pos (b - 224) (k - 1) ≤ 10000000 := accN_sm _ _ _ _ (by omega) (by omega)
           generalize accN s pos (b - 224) (k - 1) = q at *
           clear hd
           have hw2 : IntKind.i64.wrap ((pos : Int) + (k : Int)) = (pos : Int) + (k : Int) := i64s (by omega) (by omega)
           by_cases d1 : d < 128
           · have d1i : (d : Int) < 128 := by omega
             have DB : Hid (Utf8.decode s pos = (65533, 1)) := Lib.hid (DM.out.2 fun D => by have := (D.cont k hk1 hk).1; rw [DV.out] at this; omega)
             obtain rfl : false = va := by rw [← HV.out, VS.out, if_pos DB.out]
             go_wp2_with fail
             go_ret2
             exact ⟨HB.out, rfl⟩
           · have d1i : ¬ (d : Int) < 128 := by omega
             by_cases d2 : 192 ≤ d
             · have d2i : (192 : Int) ≤ (d : Int) := by omega
               have DB : Hid (Utf8.decode s pos = (65533, 1)) := Lib.hid (DM.out.2 fun D => by have := (D.cont k hk1 hk).2; rw [DV.out] at this; omega)
               obtain rfl : false = va := by rw [← HV.out, VS.out, if_pos DB.out]
               go_wp2_with fail
               go_ret2
               exact ⟨HB.out, rfl⟩
             · have d2i : ¬ (192 : Int) ≤ (d : Int) := by omega
               have hw3 : IntKind.i64.wrap (64 * (q : Int)) = 64 * (q : Int) := i64s (by omega) (by omega)
               have hw4 : IntKind.i64.wrap (64 * (q : Int) + (d : Int)) = 64 * (q : Int) + (d : Int) := i64s (by omega) (by omega)
               have hw5 : IntKind.i64.wrap (64 * (q : Int) + (d : Int) - 128) = 64 * (q : Int) + (d : Int) - 128 := i64s (by omega) (by omega)
               have HC2 : Hid (∀ j, 1 ≤ j → j < k + 1 → Cont s pos j) := Lib.hid (fun j j1 j2 => by
                by_cases h : j < k
                · exact HC.out j j1 h
                · rw [show j = k by omega]; unfold Cont; rw [DV.out]; omega)
               go_wp2_with fail
               go_roundw
               case rel => exact ⟨k + 1, by omega, by omega, by go_num, by rw [EA.out]; congr 1; omega, HC2, by trivial⟩
               case measure => simp [intOf]; omega
         · have hkk : k = 3 := by omega
           have hki : ¬ (k : Int) < 3 := by omega
           obtain ⟨q, hq⟩ : ∃ q, accN s pos (b - 224) (k - 1) = q := ⟨_, rfl⟩
           have QV : Hid (accN s pos (b - 224) (3 - 1) = q) := Lib.hid (by rw [← hq, hkk])
           have CV : Hid (∀ j, 1 ≤ j → j < 3 → Cont s pos j) := Lib.hid (by rw [← hkk]; exact HC.out)
           rw [hq]
           clear hq HC hkk
           by_cases g1 : q < 2048
           · have g1i : (q : Int) < 2048 := by omega
             have DB : Hid (Utf8.decode s pos = (65533, 1)) := Lib.hid (DM.out.2 fun D => by have := D.lo; rw [QV.out] at this; omega)
             obtain rfl : false = va := by rw [← HV.out, VS.out, if_pos DB.out]
             go_wp2_with fail
             go_ret2
             exact ⟨HB.out, rfl⟩
           have g1i : ¬ (q : Int) < 2048 := by omega
           by_cases g2 : 1114111 < q
           · have g2i : (1114111 : Int) < (q : Int) := by omega
             have DB : Hid (Utf8.decode s pos = (65533, 1)) := Lib.hid (DM.out.2 fun D => by have := D.hi; rw [QV.out] at this; omega)
             obtain rfl : false = va := by rw [← HV.out, VS.out, if_pos DB.out]
             go_wp2_with fail
             go_ret2
             exact ⟨HB.out, rfl⟩
           have g2i : ¬ (1114111 : Int) < (q : Int) := by omega
           by_cases g3 : 55296 ≤ q ∧ q ≤ 57343
           · have g3i : (55296 : Int) ≤ (q : Int) := by omega
             have g3j : (q : Int) ≤ 57343 := by omega
             have DB : Hid (Utf8.decode s pos = (65533, 1)) := Lib.hid (DM.out.2 fun D => by have := D.su; rw [QV.out] at this; exact this g3)
             obtain rfl : false = va := by rw [← HV.out, VS.out, if_pos DB.out]
             go_wp2_with fail
             go_ret2
             exact ⟨HB.out, rfl⟩
           have DE : Hid (Utf8.decode s pos = (q, 3)) := Lib.hid (by rw [← QV.out]; exact DM.out.1 ⟨by omega, CV.out, by rw [QV.out]; omega, by rw [QV.out]; omega, by rw [QV.out]; exact g3⟩)
           have HV6 : Hid (Lib.validD (s.data.toList.drop (pos + 3)) = va) := Lib.hid (by rw [← HV.out, VS.out, DE.out, if_neg (by intro h; have := congrArg Prod.snd h; simp at this)])
           have HA6 : Hid ((L ++ [q]).all okC = true ↔ ∀ i, i < pos + 3 → goodB (s.get! i) = true) := Lib.hid (good_up HA.out (by
            constructor
            · intro _ i h1 h2
              by_cases h : i = pos
              · rw [h]; exact good_high (by rw [BV.out]; omega)
              · have := (CV.out (i - pos) (by omega) (by omega)).1
                rw [show pos + (i - pos) = i by omega] at this
                exact good_high this
            · intro _
              unfold okC
              rw [decide_eq_true (by omega), decide_eq_true (by omega)]
              rfl))
           by_cases g4 : 55296 ≤ q
           · have g4i : (55296 : Int) ≤ (q : Int) := by omega
             have g5i : ¬ (q : Int) ≤ 57343 := by omega
             go_wp2_with (at_builtin; go_must (refine wpList_app rfl _ _ 71 71 rfl w.heap.size 3 _ 1 8 IT.out (.slice so L.length co) L.length (intsV L) rfl (HO.out.alloc _) _ 1 [.int .i64 (q : Int)] rfl ((CellsAt.new wr 3 (0, 0) [.int .i64 (q : Int)]).srcN rfl (by simp [Value.oneCell']) Tryd.underlying71 1 (by decide)) (by omega) (by omega) (by have := HWS.out; simp; omega) ?_); go_must (intro v6 w6 hown _ hbel _))
             have HO6 : Hid (w6.ownsRow w.heap.size 3 1 v6 (L ++ [q]).length (intsV (L ++ [q]))) := Lib.hid (by rw [List.length_append]; unfold intsV at hown ⊢; rw [List.map_append]; exact hown)
             have HB6 := Lib.hid ((HB.out.alloc HWS.out _).trans hbel)
             clear hown hbel
             go_wp2_with fail
             go_roundw
             case rel => exact ⟨pos + 3, L ++ [q], by omega, by go_num, HO6, Lib.hid (by rw [List.length_append]; have := HLL.out; simp; omega), HA6, HV6, HB6⟩
             case measure => simp [intOf]; omega
           · have g4i : ¬ (55296 : Int) ≤ (q : Int) := by omega
             go_wp2_with (at_builtin; go_must (refine wpList_app rfl _ _ 71 71 rfl w.heap.size 3 _ 1 8 IT.out (.slice so L.length co) L.length (intsV L) rfl (HO.out.alloc _) _ 1 [.int .i64 (q : Int)] rfl ((CellsAt.new wr 3 (0, 0) [.int .i64 (q : Int)]).srcN rfl (by simp [Value.oneCell']) Tryd.underlying71 1 (by decide)) (by omega) (by omega) (by have := HWS.out; simp; omega) ?_); go_must (intro v6 w6 hown _ hbel _))
             have HO6 : Hid (w6.ownsRow w.heap.size 3 1 v6 (L ++ [q]).length (intsV (L ++ [q]))) := Lib.hid (by rw [List.length_append]; unfold intsV at hown ⊢; rw [List.map_append]; exact hown)
             have HB6 := Lib.hid ((HB.out.alloc HWS.out _).trans hbel)
             clear hown hbel
             go_wp2_with fail
             go_roundw
             case rel => exact ⟨pos + 3, L ++ [q], by omega, by go_num, HO6, Lib.hid (by rw [List.length_append]; have := HLL.out; simp; omega), HA6, HV6, HB6⟩
             case measure => simp [intOf]; omega
      have c3i : ¬ (b : Int) < 240 := by omega
      have c3j : (240 : Int) ≤ (b : Int) := by omega
      by_cases c4 : b < 248
      · have c4i : (b : Int) < 248 := by omega
        have DM := Lib.hid (dec_multi s pos 4 (b - 240) 65536 (by rw [BV.out]; unfold Cls; omega))
        have hw0 : IntKind.i64.wrap ((b : Int) - 240) = (b : Int) - 240 := i64s (by omega) (by omega)
        have hw1 : IntKind.i64.wrap ((pos : Int) + 4) = (pos : Int) + 4 := i64s (by omega) (by omega)
        have ix := IX.out
        by_cases hn : s.size < pos + 4
        · have hni : (s.size : Int) < (pos : Int) + 4 := by omega
          have DB : Hid (Utf8.decode s pos = (65533, 1)) := Lib.hid (DM.out.2 fun d => by have := d.len; omega)
          obtain rfl : false = va := by rw [← HV.out, VS.out, if_pos DB.out]
          go_wp2_with fail
          go_ret2
          exact ⟨HB.out, rfl⟩
        have hni : ¬ (s.size : Int) < (pos : Int) + 4 := by omega
        go_wp2_with fail
        clear ix
        go_loopw [6, 9] (fun cv kv wX => ∃ k : Nat, 1 ≤ k ∧ k ≤ 4 ∧ kv = .int .i64 (k : Int) ∧ cv = .int .i64 ((accN s pos (b - 240) (k - 1) : Nat) : Int) ∧ Hid (∀ j, 1 ≤ j → j < k → Cont s pos j) ∧ wX = wr) (fun _ kv _ => 4 - (intOf kv).toNat)
        case atStart => exact ⟨1, by omega, by omega, rfl, by show _ = Value.int .i64 ((b - 240 : Nat) : Int); congr 1; omega, Lib.hid (fun j h1 h2 => by omega), rfl⟩
        case round =>
         obtain ⟨k, hk1, hkn, rfl, rfl, HC, rfl⟩ := hrel
         by_cases hk : k < 4
         · have hki : (k : Int) < 4 := by omega
           have IK0 := fun W => idx_str s (pos + k) ((pos : Int) + (k : Int)) (by omega) (by omega) W
           obtain ⟨d, hd⟩ : ∃ d, (s.get! (pos + k)).toNat = d := ⟨_, rfl⟩
           rw [hd] at IK0
           have hd256 : d < 256 := by rw [← hd]; exact u8_lt s _
           have DV := Lib.hid hd
           have EA : Hid (accN s pos (b - 240) (k + 1 - 1) = 64 * accN s pos (b - 240) (k - 1) + d - 128) := Lib.hid (by
            obtain ⟨m, rfl⟩ : ∃ m, k = m + 1 := ⟨k - 1, by omega⟩
            rw [← hd]
            rfl)
           have HSM : accN s pos (b - 240) (k - 1) ≤ 10000000 := accN_sm _ _ _ _ (by omega) (by omega)
           generalize accN s pos (b - 240) (k - 1) = q at *
           clear hd
           have hw2 : IntKind.i64.wrap ((pos : Int) + (k : Int)) = (pos : Int) + (k : Int) := i64s (by omega) (by omega)
           by_cases d1 : d < 128
           · have d1i : (d : Int) < 128 := by omega
             have DB : Hid (Utf8.decode s pos = (65533, 1)) := Lib.hid (DM.out.2 fun D => by have := (D.cont k hk1 hk).1; rw [DV.out] at this; omega)
             obtain rfl : false = va := by rw [← HV.out, VS.out, if_pos DB.out]
             go_wp2_with fail
             go_ret2
             exact ⟨HB.out, rfl⟩
           · have d1i : ¬ (d : Int) < 128 := by omega
             by_cases d2 : 192 ≤ d
             · have d2i : (192 : Int) ≤ (d : Int) := by omega
               have DB : Hid (Utf8.decode s pos = (65533, 1)) := Lib.hid (DM.out.2 fun D => by have := (D.cont k hk1 hk).2; rw [DV.out] at this; omega)
               obtain rfl : false = va := by rw [← HV.out, VS.out, if_pos DB.out]
               go_wp2_with fail
               go_ret2
               exact ⟨HB.out, rfl⟩
             · have d2i : ¬ (192 : Int) ≤ (d : Int) := by omega
               have hw3 : IntKind.i64.wrap (64 * (q : Int)) = 64 * (q : Int) := i64s (by omega) (by omega)
               have hw4 : IntKind.i64.wrap (64 * (q : Int) + (d : Int)) = 64 * (q : Int) + (d : Int) := i64s (by omega) (by omega)
               have hw5 : IntKind.i64.wrap (64 * (q : Int) + (d : Int) - 128) = 64 * (q : Int) + (d : Int) - 128 := i64s (by omega) (by omega)
               have HC2 : Hid (∀ j, 1 ≤ j → j < k + 1 → Cont s pos j) := Lib.hid (fun j j1 j2 => by
                by_cases h : j < k
                · exact HC.out j j1 h
                · rw [show j = k by omega]; unfold Cont; rw [DV.out]; omega)
               go_wp2_with fail
               go_roundw
               case rel => exact ⟨k + 1, by omega, by omega, by go_num, by rw [EA.out]; congr 1; omega, HC2, by trivial⟩
               case measure => simp [intOf]; omega
         · have hkk : k = 4 := by omega
           have hki : ¬ (k : Int) < 4 := by omega
           obtain ⟨q, hq⟩ : ∃ q, accN s pos (b - 240) (k - 1) = q := ⟨_, rfl⟩
           have QV : Hid (accN s pos (b - 240) (4 - 1) = q) := Lib.hid (by rw [← hq, hkk])
           have CV : Hid (∀ j, 1 ≤ j → j < 4 → Cont s pos j) := Lib.hid (by rw [← hkk]; exact HC.out)
           rw [hq]
           clear hq HC hkk
           by_cases g1 : q < 65536
           · have g1i : (q : Int) < 65536 := by omega
             have DB : Hid (Utf8.decode s pos = (65533, 1)) := Lib.hid (DM.out.2 fun D => by have := D.lo; rw [QV.out] at this; omega)
             obtain rfl : false = va := by rw [← HV.out, VS.out, if_pos DB.out]
             go_wp2_with fail
             go_ret2
             exact ⟨HB.out, rfl⟩
           have g1i : ¬ (q : Int) < 65536 := by omega
           by_cases g2 : 1114111 < q
           · have g2i : (1114111 : Int) < (q : Int) := by omega
             have DB : Hid (Utf8.decode s pos = (65533, 1)) := Lib.hid (DM.out.2 fun D => by have := D.hi; rw [QV.out] at this; omega)
             obtain rfl : false = va := by rw [← HV.out, VS.out, if_pos DB.out]
             go_wp2_with fail
             go_ret2
             exact ⟨HB.out, rfl⟩
           have g2i : ¬ (1114111 : Int) < (q : Int) := by omega
           by_cases g3 : 55296 ≤ q ∧ q ≤ 57343
           · have g3i : (55296 : Int) ≤ (q : Int) := by omega
             have g3j : (q : Int) ≤ 57343 := by omega
             have DB : Hid (Utf8.decode s pos = (65533, 1)) := Lib.hid (DM.out.2 fun D => by have := D.su; rw [QV.out] at this; exact this g3)
             obtain rfl : false = va := by rw [← HV.out, VS.out, if_pos DB.out]
             go_wp2_with fail
             go_ret2
             exact ⟨HB.out, rfl⟩
           have DE : Hid (Utf8.decode s pos = (q, 4)) := Lib.hid (by rw [← QV.out]; exact DM.out.1 ⟨by omega, CV.out, by rw [QV.out]; omega, by rw [QV.out]; omega, by rw [QV.out]; exact g3⟩)
           have HV6 : Hid (Lib.validD (s.data.toList.drop (pos + 4)) = va) := Lib.hid (by rw [← HV.out, VS.out, DE.out, if_neg (by intro h; have := congrArg Prod.snd h; simp at this)])
           have HA6 : Hid ((L ++ [q]).all okC = true ↔ ∀ i, i < pos + 4 → goodB (s.get! i) = true) := Lib.hid (good_up HA.out (by
            constructor
            · intro _ i h1 h2
              by_cases h : i = pos
              · rw [h]; exact good_high (by rw [BV.out]; omega)
              · have := (CV.out (i - pos) (by omega) (by omega)).1
                rw [show pos + (i - pos) = i by omega] at this
                exact good_high this
            · intro _
              unfold okC
              rw [decide_eq_true (by omega), decide_eq_true (by omega)]
              rfl))
           have g4i : (55296 : Int) ≤ (q : Int) := by omega
           have g5i : ¬ (q : Int) ≤ 57343 := by omega
           go_wp2_with (at_builtin; go_must (refine wpList_app rfl _ _ 71 71 rfl w.heap.size 3 _ 1 8 IT.out (.slice so L.length co) L.length (intsV L) rfl (HO.out.alloc _) _ 1 [.int .i64 (q : Int)] rfl ((CellsAt.new wr 3 (0, 0) [.int .i64 (q : Int)]).srcN rfl (by simp [Value.oneCell']) Tryd.underlying71 1 (by decide)) (by omega) (by omega) (by have := HWS.out; simp; omega) ?_); go_must (intro v6 w6 hown _ hbel _))
           have HO6 : Hid (w6.ownsRow w.heap.size 3 1 v6 (L ++ [q]).length (intsV (L ++ [q]))) := Lib.hid (by rw [List.length_append]; unfold intsV at hown ⊢; rw [List.map_append]; exact hown)
           have HB6 := Lib.hid ((HB.out.alloc HWS.out _).trans hbel)
           clear hown hbel
           go_wp2_with fail
           go_roundw
           case rel => exact ⟨pos + 4, L ++ [q], by omega, by go_num, HO6, Lib.hid (by rw [List.length_append]; have := HLL.out; simp; omega), HA6, HV6, HB6⟩
           case measure => simp [intOf]; omega
      have c4i : ¬ (b : Int) < 248 := by omega
      have DB : Hid (Utf8.decode s pos = (65533, 1)) := Lib.hid (dec_bad s pos (by rw [BV.out]; omega) (by rw [BV.out]; omega))
      have ix := IX.out
      obtain rfl : false = va := by rw [← HV.out, VS.out, if_pos DB.out]
      go_wp2_with fail
      go_ret2
      exact ⟨HB.out, rfl⟩
  · obtain rfl : pos = s.size := by omega
    obtain rfl : true = va := by rw [← HV.out]; exact (valid_end s).symm
    have hns : L.length ≤ 1000 := by have := HLL.out; have := HS.out; omega
    have CO : Hid (CellsAt wr so (intsV L)) := Lib.hid (CellsAt.ownN HO.out)
    have FA : Hid (L.all okC = allG s) := Lib.hid (by rw [Bool.eq_iff_iff, HA.out, allG_iff])
    go_wp2_with fail
    go_ret2
    exact ⟨HB.out, L, so, L.length, ⟨co, rfl⟩, rfl, hns, CO.out, FA.out⟩
end Go.Proofs.YtkjchoamdibolaaDoor
namespace Go.Proofs.YtkjchoamdibolaaDoor
namespace Pm
def klt (a b : ByteArray) : Bool := Op.bytesLess a.toList b.toList
theorem klt_iff (a b : ByteArray) : klt a b = true ↔ a.data.toList < b.data.toList := by
 unfold klt; rw [bytesLess_eq, ByteArray.toList_eq, ByteArray.toList_eq]; simp
theorem key_ext {a b : ByteArray} (h : a.data.toList = b.data.toList) : a = b := by
 apply ByteArray.ext; exact Array.toList_inj.1 h
theorem klt_irrefl (a : ByteArray) : klt a a = false := by
 cases h : klt a a with
 | false => rfl
 | true => exact absurd ((klt_iff a a).1 h) (List.lt_irrefl _)
theorem klt_trans {a b c : ByteArray} (h : klt a b = true) (k : klt b c = true) : klt a c = true :=
 (klt_iff a c).2 (List.lt_trans ((klt_iff a b).1 h) ((klt_iff b c).1 k))
theorem klt_asymm {a b : ByteArray} (h : klt a b = true) : klt b a = false := by
 cases k : klt b a with
 | false => rfl
 | true => have := klt_trans h k; rw [klt_irrefl] at this; cases this
theorem klt_tri {a b : ByteArray} (h : klt a b = false) (k : klt b a = false) : a = b := by
 apply key_ext
 have h1 : ¬ a.data.toList < b.data.toList := fun e => by rw [(klt_iff a b).2 e] at h; cases h
 have k1 : ¬ b.data.toList < a.data.toList := fun e => by rw [(klt_iff b a).2 e] at k; cases k
 exact List.le_antisymm (List.not_lt.1 k1) (List.not_lt.1 h1)
theorem klt_ne {a b : ByteArray} (h : klt a b = true) : a ≠ b := by
 rintro rfl; rw [klt_irrefl] at h; cases h
theorem eq_iff (a b : ByteArray) : (a.toList == b.toList) = decide (a = b) := by
 rw [ByteArray.toList_eq, ByteArray.toList_eq, Bool.eq_iff_iff]
 simp only [beq_iff_eq, decide_eq_true_eq]
 exact ⟨key_ext, fun h => by rw [h]⟩
inductive Tr (α : Type) where
 | nil : Tr α
 | node (b : Nat) (l : Tr α) (k : ByteArray) (v : α) (r : Tr α) : Tr α
section
variable {α : Type}
def ht : Tr α → Nat
 | .nil => 0
 | .node _ l _ _ r => max (ht l) (ht r) + 1
def sz : Tr α → Nat
 | .nil => 0
 | .node _ l _ _ r => sz l + sz r + 1
def items : Tr α → List (ByteArray × α)
 | .nil => []
 | .node _ l k v r => items l ++ (k, v) :: items r
def blocks : Tr α → List Nat
 | .nil => []
 | .node b l _ _ r => blocks l ++ b :: blocks r
def Bal : Tr α → Prop
 | .nil => True
 | .node _ l _ _ r => Bal l ∧ Bal r ∧ ht l ≤ ht r + 1 ∧ ht r ≤ ht l + 1
def Srt (l : List (ByteArray × α)) : Prop := l.Pairwise fun x y => klt x.1 y.1 = true
theorem sz_items (t : Tr α) : (items t).length = sz t := by
 induction t with
 | nil => rfl
 | node b l k v r ih1 ih2 => simp only [items, sz, List.length_append, List.length_cons, ih1, ih2]; omega
inductive BalR (N : Nat) : Tr α → ByteArray → α → Tr α → Tr α → Prop
 | same {l r : Tr α} {k : ByteArray} {v : α} {b : Nat} : ht l ≤ ht r + 1 → ht r ≤ ht l + 1 → N ≤ b → BalR N l k v r (.node b l k v r)
 | ll {bl : Nat} {ll lr r : Tr α} {lk k : ByteArray} {lv v : α} {b1 b2 : Nat} : ht r + 1 < ht (.node bl ll lk lv lr) → ht lr ≤ ht ll → N ≤ b1 → N ≤ b2 →
  BalR N (.node bl ll lk lv lr) k v r (.node b1 ll lk lv (.node b2 lr k v r))
 | lr {bl bm : Nat} {ll ml mr r : Tr α} {lk mk k : ByteArray} {lv mv v : α} {b1 b2 b3 : Nat} : ht r + 1 < ht (.node bl ll lk lv (.node bm ml mk mv mr)) → ht ll < ht (.node bm ml mk mv mr) → N ≤ b1 → N ≤ b2 → N ≤ b3 →
  BalR N (.node bl ll lk lv (.node bm ml mk mv mr)) k v r (.node b1 (.node b2 ll lk lv ml) mk mv (.node b3 mr k v r))
 | rr {br : Nat} {l rl rr : Tr α} {rk k : ByteArray} {rv v : α} {b1 b2 : Nat} : ht l + 1 < ht (.node br rl rk rv rr) → ht rl ≤ ht rr → N ≤ b1 → N ≤ b2 →
  BalR N l k v (.node br rl rk rv rr) (.node b1 (.node b2 l k v rl) rk rv rr)
 | rl {br bm : Nat} {l ml mr rr : Tr α} {rk mk k : ByteArray} {rv mv v : α} {b1 b2 b3 : Nat} : ht l + 1 < ht (.node br (.node bm ml mk mv mr) rk rv rr) → ht rr < ht (.node bm ml mk mv mr) → N ≤ b1 → N ≤ b2 → N ≤ b3 →
  BalR N l k v (.node br (.node bm ml mk mv mr) rk rv rr) (.node b1 (.node b2 l k v ml) mk mv (.node b3 mr rk rv rr))
theorem BalR.mono {N N' : Nat} {l r t : Tr α} {k : ByteArray} {v : α} (h : BalR N l k v r t) (hN : N' ≤ N) : BalR N' l k v r t := by
 cases h with
 | same h1 h2 h3 => exact .same h1 h2 (Nat.le_trans hN h3)
 | ll h1 h2 h3 h4 => exact .ll h1 h2 (Nat.le_trans hN h3) (Nat.le_trans hN h4)
 | lr h1 h2 h3 h4 h5 => exact .lr h1 h2 (Nat.le_trans hN h3) (Nat.le_trans hN h4) (Nat.le_trans hN h5)
 | rr h1 h2 h3 h4 => exact .rr h1 h2 (Nat.le_trans hN h3) (Nat.le_trans hN h4)
 | rl h1 h2 h3 h4 h5 => exact .rl h1 h2 (Nat.le_trans hN h3) (Nat.le_trans hN h4) (Nat.le_trans hN h5)
theorem BalR.items {N : Nat} {l r t : Tr α} {k : ByteArray} {v : α} (h : BalR N l k v r t) : items t = items l ++ (k, v) :: items r := by
 cases h <;> simp [Pm.items]
theorem BalR.sz {N : Nat} {l r t : Tr α} {k : ByteArray} {v : α} (h : BalR N l k v r t) : sz t = sz l + sz r + 1 := by
 rw [← sz_items, h.items, ← sz_items l, ← sz_items r]; simp; omega
theorem BalR.bal {N : Nat} {l r t : Tr α} {k : ByteArray} {v : α} (h : BalR N l k v r t) (hl : Bal l) (hr : Bal r) (h1 : ht l ≤ ht r + 2) (h2 : ht r ≤ ht l + 2) :
 Bal t ∧ (ht t = max (ht l) (ht r) ∨ ht t = max (ht l) (ht r) + 1) ∧ (ht l ≤ ht r + 1 → ht r ≤ ht l + 1 → ht t = max (ht l) (ht r) + 1) := by
 cases h with
 | same h3 h4 h5 => exact ⟨⟨hl, hr, h3, h4⟩, .inr rfl, fun _ _ => rfl⟩
 | ll h3 h4 h5 h6 =>
  obtain ⟨b1, b2, b3, b4⟩ := hl
  simp only [ht] at *
  refine ⟨⟨b1, ⟨b2, hr, ?_, ?_⟩, ?_, ?_⟩, ?_, ?_⟩ <;> (try simp only [ht]) <;> omega
 | lr h3 h4 h5 h6 h7 =>
  obtain ⟨b1, ⟨b2, b3, b6, b7⟩, b4, b5⟩ := hl
  simp only [ht] at *
  refine ⟨⟨⟨b1, b2, ?_, ?_⟩, ⟨b3, hr, ?_, ?_⟩, ?_, ?_⟩, ?_, ?_⟩ <;> (try simp only [ht]) <;> omega
 | rr h3 h4 h5 h6 =>
  obtain ⟨b1, b2, b3, b4⟩ := hr
  simp only [ht] at *
  refine ⟨⟨⟨hl, b1, ?_, ?_⟩, b2, ?_, ?_⟩, ?_, ?_⟩ <;> (try simp only [ht]) <;> omega
 | rl h3 h4 h5 h6 h7 =>
  obtain ⟨⟨b1, b2, b6, b7⟩, b3, b4, b5⟩ := hr
  simp only [ht] at *
  refine ⟨⟨⟨hl, b1, ?_, ?_⟩, ⟨b2, b3, ?_, ?_⟩, ?_, ?_⟩, ?_, ?_⟩ <;> (try simp only [ht]) <;> omega
theorem BalR.plain {N : Nat} {l r t : Tr α} {k : ByteArray} {v : α} (h : BalR N l k v r t) (h1 : ht l ≤ ht r + 1) (h2 : ht r ≤ ht l + 1) : ∃ b, N ≤ b ∧ t = .node b l k v r := by
 cases h with
 | same _ _ h3 => exact ⟨_, h3, rfl⟩
 | ll h3 => exact absurd h3 (by omega)
 | lr h3 => exact absurd h3 (by omega)
 | rr h3 => exact absurd h3 (by omega)
 | rl h3 => exact absurd h3 (by omega)
inductive PutR (N : Nat) (k : ByteArray) (v : α) : Tr α → Tr α → Prop
 | nil {b : Nat} : N ≤ b → PutR N k v .nil (.node b .nil k v .nil)
 | lt {b : Nat} {l r l' t : Tr α} {k0 : ByteArray} {v0 : α} : klt k k0 = true → PutR N k v l l' → BalR N l' k0 v0 r t → PutR N k v (.node b l k0 v0 r) t
 | gt {b : Nat} {l r r' t : Tr α} {k0 : ByteArray} {v0 : α} : klt k0 k = true → PutR N k v r r' → BalR N l k0 v0 r' t → PutR N k v (.node b l k0 v0 r) t
 | eq {b b' : Nat} {l r : Tr α} {k0 : ByteArray} {v0 : α} : k = k0 → N ≤ b' → PutR N k v (.node b l k0 v0 r) (.node b' l k v r)
def ins (k : ByteArray) (v : α) : List (ByteArray × α) → List (ByteArray × α)
 | [] => [(k, v)]
 | x :: l => if klt k x.1 then (k, v) :: x :: l else if klt x.1 k then x :: ins k v l else (k, v) :: l
def del (k : ByteArray) (l : List (ByteArray × α)) : List (ByteArray × α) := l.filter fun x => decide (x.1 ≠ k)
theorem srt_append {l m : List (ByteArray × α)} : Srt (l ++ m) ↔ Srt l ∧ Srt m ∧ ∀ x ∈ l, ∀ y ∈ m, klt x.1 y.1 = true := List.pairwise_append
theorem srt_cons {x : ByteArray × α} {l : List (ByteArray × α)} : Srt (x :: l) ↔ (∀ y ∈ l, klt x.1 y.1 = true) ∧ Srt l := List.pairwise_cons
theorem ins_left {k : ByteArray} {v : α} {l m : List (ByteArray × α)} {x : ByteArray × α} (h : klt k x.1 = true) : ins k v (l ++ x :: m) = ins k v l ++ x :: m := by
 induction l with
 | nil => simp only [List.nil_append, ins]; rw [if_pos h]; rfl
 | cons y l ih =>
  simp only [List.cons_append, ins]
  by_cases h1 : klt k y.1 = true
  · rw [if_pos h1, if_pos h1]; rfl
  · rw [if_neg h1, if_neg h1]
    by_cases h2 : klt y.1 k = true
    · rw [if_pos h2, if_pos h2, ih]; rfl
    · rw [if_neg h2, if_neg h2]; rfl
theorem ins_right {k : ByteArray} {v : α} {l m : List (ByteArray × α)} {x : ByteArray × α} (h : klt x.1 k = true) (hl : ∀ y ∈ l, klt y.1 x.1 = true) : ins k v (l ++ x :: m) = l ++ x :: ins k v m := by
 induction l with
 | nil =>
  simp only [List.nil_append, ins]
  rw [if_neg (by rw [klt_asymm h]; simp), if_pos h]
 | cons y l ih =>
  have hy := klt_trans (hl y List.mem_cons_self) h
  simp only [List.cons_append, ins]
  rw [if_neg (by rw [klt_asymm hy]; simp), if_pos hy, ih (fun z hz => hl z (List.mem_cons_of_mem _ hz))]
theorem ins_here {k : ByteArray} {v v0 : α} {l m : List (ByteArray × α)} (hl : ∀ y ∈ l, klt y.1 k = true) : ins k v (l ++ (k, v0) :: m) = l ++ (k, v) :: m := by
 induction l with
 | nil =>
  simp only [List.nil_append, ins]
  rw [if_neg (by rw [klt_irrefl]; simp), if_neg (by rw [klt_irrefl]; simp)]
 | cons y l ih =>
  have hy := hl y List.mem_cons_self
  simp only [List.cons_append, ins]
  rw [if_neg (by rw [klt_asymm hy]; simp), if_pos hy, ih (fun z hz => hl z (List.mem_cons_of_mem _ hz))]
theorem PutR.items {N : Nat} {k : ByteArray} {v : α} {t t' : Tr α} (h : PutR N k v t t') (hs : Srt (items t)) : items t' = ins k v (items t) := by
 induction h with
 | nil => rfl
 | lt h1 h2 h3 ih =>
  obtain ⟨s1, s2, s3⟩ := srt_append.1 hs
  rw [h3.items, ih s1]
  exact (ins_left (x := (_, _)) h1).symm
 | gt h1 h2 h3 ih =>
  obtain ⟨s1, s2, s3⟩ := srt_append.1 hs
  rw [h3.items, ih (srt_cons.1 s2).2]
  exact (ins_right (x := (_, _)) h1 (fun y hy => s3 y hy _ List.mem_cons_self)).symm
 | eq h1 h2 =>
  subst h1
  obtain ⟨s1, s2, s3⟩ := srt_append.1 hs
  exact (ins_here (fun y hy => s3 y hy _ List.mem_cons_self)).symm
theorem PutR.bal {N : Nat} {k : ByteArray} {v : α} {t t' : Tr α} (h : PutR N k v t t') (hb : Bal t) : Bal t' ∧ (ht t' = ht t ∨ ht t' = ht t + 1) := by
 induction h with
 | nil => exact ⟨⟨trivial, trivial, by simp [ht], by simp [ht]⟩, .inr rfl⟩
 | lt h1 h2 h3 ih =>
  obtain ⟨b1, b2, b3, b4⟩ := hb
  obtain ⟨i1, i2⟩ := ih b1
  obtain ⟨g1, g2, g3⟩ := h3.bal i1 b2 (by omega) (by omega)
  refine ⟨g1, ?_⟩
  simp only [ht]
  omega
 | gt h1 h2 h3 ih =>
  obtain ⟨b1, b2, b3, b4⟩ := hb
  obtain ⟨i1, i2⟩ := ih b2
  obtain ⟨g1, g2, g3⟩ := h3.bal b1 i1 (by omega) (by omega)
  refine ⟨g1, ?_⟩
  simp only [ht]
  omega
 | eq h1 h2 => exact ⟨hb, .inl rfl⟩
inductive FirstR (N : Nat) : Tr α → ByteArray → α → Tr α → Prop
 | here {b : Nat} {k : ByteArray} {v : α} {r : Tr α} : FirstR N (.node b .nil k v r) k v r
 | left {b : Nat} {l r l' t : Tr α} {k k1 : ByteArray} {v v1 : α} : FirstR N l k1 v1 l' → BalR N l' k v r t → FirstR N (.node b l k v r) k1 v1 t
theorem FirstR.items {N : Nat} {t t' : Tr α} {k : ByteArray} {v : α} (h : FirstR N t k v t') : items t = (k, v) :: items t' := by
 induction h with
 | here => rfl
 | left h1 h2 ih => rw [h2.items]; simp only [Pm.items, ih, List.cons_append]
theorem FirstR.bal {N : Nat} {t t' : Tr α} {k : ByteArray} {v : α} (h : FirstR N t k v t') (hb : Bal t) : Bal t' ∧ (ht t' = ht t ∨ ht t = ht t' + 1) := by
 induction h with
 | here => obtain ⟨b1, b2, b3, b4⟩ := hb; exact ⟨b2, .inr (by simp [ht])⟩
 | left h1 h2 ih =>
  obtain ⟨b1, b2, b3, b4⟩ := hb
  obtain ⟨i1, i2⟩ := ih b1
  obtain ⟨g1, g2, g3⟩ := h2.bal i1 b2 (by omega) (by omega)
  refine ⟨g1, ?_⟩
  simp only [ht]
  omega
inductive TakeR (N : Nat) (k : ByteArray) : Tr α → Tr α → Prop
 | lt {b : Nat} {l r l' t : Tr α} {k0 : ByteArray} {v0 : α} : klt k k0 = true → TakeR N k l l' → BalR N l' k0 v0 r t → TakeR N k (.node b l k0 v0 r) t
 | gt {b : Nat} {l r r' t : Tr α} {k0 : ByteArray} {v0 : α} : klt k0 k = true → TakeR N k r r' → BalR N l k0 v0 r' t → TakeR N k (.node b l k0 v0 r) t
 | last {b : Nat} {l : Tr α} {k0 : ByteArray} {v0 : α} : k = k0 → TakeR N k (.node b l k0 v0 .nil) l
 | eq {b : Nat} {l r r' t : Tr α} {k0 k1 : ByteArray} {v0 v1 : α} : k = k0 → FirstR N r k1 v1 r' → BalR N l k1 v1 r' t → TakeR N k (.node b l k0 v0 r) t
theorem del_none {k : ByteArray} {l : List (ByteArray × α)} (h : ∀ x ∈ l, x.1 ≠ k) : del k l = l := by
 unfold del; rw [List.filter_eq_self]; intro x hx; simpa using h x hx
theorem del_append (k : ByteArray) (l m : List (ByteArray × α)) : del k (l ++ m) = del k l ++ del k m := List.filter_append ..
theorem del_here (k : ByteArray) (v : α) (l : List (ByteArray × α)) : del k ((k, v) :: l) = del k l := by simp [del]
theorem del_other {k : ByteArray} {x : ByteArray × α} (l : List (ByteArray × α)) (h : x.1 ≠ k) : del k (x :: l) = x :: del k l := by simp [del, h]
theorem TakeR.items {N : Nat} {k : ByteArray} {t t' : Tr α} (h : TakeR N k t t') (hs : Srt (items t)) : items t' = del k (items t) := by
 induction h with
 | lt h1 h2 h3 ih =>
  obtain ⟨s1, s2, s3⟩ := srt_append.1 hs
  obtain ⟨s4, s5⟩ := srt_cons.1 s2
  rw [h3.items, ih s1]
  simp only [Pm.items, del_append]
  congr 1
  rw [del_other _ (Ne.symm (klt_ne h1)), del_none (fun x hx => Ne.symm (klt_ne (klt_trans h1 (s4 x hx))))]
 | gt h1 h2 h3 ih =>
  obtain ⟨s1, s2, s3⟩ := srt_append.1 hs
  obtain ⟨s4, s5⟩ := srt_cons.1 s2
  rw [h3.items, ih s5]
  simp only [Pm.items, del_append]
  rw [del_other _ (klt_ne h1), del_none (fun x hx => klt_ne (klt_trans (s3 x hx _ List.mem_cons_self) h1))]
 | last h1 =>
  subst h1
  obtain ⟨s1, s2, s3⟩ := srt_append.1 hs
  simp only [Pm.items, del_append, del_here]
  rw [del_none (fun x hx => klt_ne (s3 x hx _ List.mem_cons_self))]
  simp [del]
 | eq h1 h2 h3 =>
  subst h1
  obtain ⟨s1, s2, s3⟩ := srt_append.1 hs
  obtain ⟨s4, s5⟩ := srt_cons.1 s2
  simp only [Pm.items, del_append, del_here]
  rw [h3.items, del_none (fun x hx => klt_ne (s3 x hx _ List.mem_cons_self)), del_none (fun x hx => Ne.symm (klt_ne (s4 x hx))), h2.items]
theorem TakeR.bal {N : Nat} {k : ByteArray} {t t' : Tr α} (h : TakeR N k t t') (hb : Bal t) : Bal t' ∧ (ht t' = ht t ∨ ht t = ht t' + 1) := by
 induction h with
 | lt h1 h2 h3 ih =>
  obtain ⟨b1, b2, b3, b4⟩ := hb
  obtain ⟨i1, i2⟩ := ih b1
  obtain ⟨g1, g2, g3⟩ := h3.bal i1 b2 (by omega) (by omega)
  refine ⟨g1, ?_⟩
  simp only [ht]
  omega
 | gt h1 h2 h3 ih =>
  obtain ⟨b1, b2, b3, b4⟩ := hb
  obtain ⟨i1, i2⟩ := ih b2
  obtain ⟨g1, g2, g3⟩ := h3.bal b1 i1 (by omega) (by omega)
  refine ⟨g1, ?_⟩
  simp only [ht]
  omega
 | last h1 => obtain ⟨b1, b2, b3, b4⟩ := hb; exact ⟨b1, .inr (by simp [ht])⟩
 | eq h1 h2 h3 =>
  obtain ⟨b1, b2, b3, b4⟩ := hb
  obtain ⟨i1, i2⟩ := h2.bal b2
  obtain ⟨g1, g2, g3⟩ := h3.bal b1 i1 (by omega) (by omega)
  refine ⟨g1, ?_⟩
  simp only [ht]
  omega
def seek (k : ByteArray) : Tr α → Tr α
 | .nil => .nil
 | .node b l k0 v0 r => if klt k k0 then seek k l else if klt k0 k then seek k r else .node b l k0 v0 r
inductive JoinR (N : Nat) (k : ByteArray) (v : α) : Tr α → Tr α → Tr α → Prop
 | left {b : Nat} {ll lr r t1 t : Tr α} {lk : ByteArray} {lv : α} : ht r + 1 < ht (.node b ll lk lv lr) → JoinR N k v lr r t1 → BalR N ll lk lv t1 t → JoinR N k v (.node b ll lk lv lr) r t
 | right {b : Nat} {l rl rr t1 t : Tr α} {rk : ByteArray} {rv : α} : ht l + 1 < ht (.node b rl rk rv rr) → JoinR N k v l rl t1 → BalR N t1 rk rv rr t → JoinR N k v l (.node b rl rk rv rr) t
 | same {b : Nat} {l r : Tr α} : ht l ≤ ht r + 1 → ht r ≤ ht l + 1 → N ≤ b → JoinR N k v l r (.node b l k v r)
theorem JoinR.items {N : Nat} {k : ByteArray} {v : α} {l r t : Tr α} (h : JoinR N k v l r t) : items t = items l ++ (k, v) :: items r := by
 induction h with
 | left h1 h2 h3 ih => rw [h3.items, ih]; simp [Pm.items]
 | right h1 h2 h3 ih => rw [h3.items, ih]; simp [Pm.items]
 | same => rfl
theorem JoinR.bal {N : Nat} {k : ByteArray} {v : α} {l r t : Tr α} (h : JoinR N k v l r t) (hl : Bal l) (hr : Bal r) : Bal t ∧ (ht t = max (ht l) (ht r) ∨ ht t = max (ht l) (ht r) + 1) := by
 induction h with
 | left h1 h2 h3 ih =>
  obtain ⟨b1, b2, b3, b4⟩ := hl
  obtain ⟨i1, i2⟩ := ih b2 hr
  simp only [ht] at *
  obtain ⟨g1, g2, g3⟩ := h3.bal b1 i1 (by omega) (by omega)
  exact ⟨g1, by omega⟩
 | right h1 h2 h3 ih =>
  obtain ⟨b1, b2, b3, b4⟩ := hr
  obtain ⟨i1, i2⟩ := ih hl b1
  simp only [ht] at *
  obtain ⟨g1, g2, g3⟩ := h3.bal i1 b2 (by omega) (by omega)
  exact ⟨g1, by omega⟩
 | same h1 h2 h3 => exact ⟨⟨hl, hr, h1, h2⟩, .inr rfl⟩
inductive SplitR (N : Nat) (k : ByteArray) : Tr α → Tr α → Tr α → Tr α → Prop
 | nil : SplitR N k .nil .nil .nil .nil
 | lt {b : Nat} {l r a x c c' : Tr α} {k0 : ByteArray} {v0 : α} : klt k k0 = true → SplitR N k l a x c → JoinR N k0 v0 c r c' → SplitR N k (.node b l k0 v0 r) a x c'
 | gt {b : Nat} {l r a x c a' : Tr α} {k0 : ByteArray} {v0 : α} : klt k0 k = true → SplitR N k r a x c → JoinR N k0 v0 l a a' → SplitR N k (.node b l k0 v0 r) a' x c
 | eq {b : Nat} {l r : Tr α} {k0 : ByteArray} {v0 : α} : k = k0 → SplitR N k (.node b l k0 v0 r) l (.node b l k0 v0 r) r
theorem SplitR.bal {N : Nat} {k : ByteArray} {t a x c : Tr α} (h : SplitR N k t a x c) (hb : Bal t) : Bal a ∧ Bal c := by
 induction h with
 | nil => exact ⟨trivial, trivial⟩
 | lt h1 h2 h3 ih => obtain ⟨b1, b2, b3, b4⟩ := hb; obtain ⟨i1, i2⟩ := ih b1; exact ⟨i1, (h3.bal i2 b2).1⟩
 | gt h1 h2 h3 ih => obtain ⟨b1, b2, b3, b4⟩ := hb; obtain ⟨i1, i2⟩ := ih b2; exact ⟨(h3.bal b1 i1).1, i2⟩
 | eq => obtain ⟨b1, b2, b3, b4⟩ := hb; exact ⟨b1, b2⟩
def here : Tr α → List (ByteArray × α)
 | .nil => []
 | .node _ _ k v _ => [(k, v)]
theorem SplitR.items {N : Nat} {k : ByteArray} {t a x c : Tr α} (h : SplitR N k t a x c) : items t = items a ++ here x ++ items c := by
 induction h with
 | nil => rfl
 | lt h1 h2 h3 ih => rw [h3.items]; simp [Pm.items, ih]
 | gt h1 h2 h3 ih => rw [h3.items]; simp [Pm.items, ih]
 | eq => simp [Pm.items, here]
theorem SplitR.seek {N : Nat} {k : ByteArray} {t a x c : Tr α} (h : SplitR N k t a x c) : x = seek k t := by
 induction h with
 | nil => rfl
 | lt h1 h2 h3 ih => simp only [Pm.seek]; rw [if_pos h1]; exact ih
 | gt h1 h2 h3 ih => simp only [Pm.seek]; rw [if_neg (by rw [klt_asymm h1]; simp), if_pos h1]; exact ih
 | eq h1 => subst h1; simp only [Pm.seek]; rw [klt_irrefl]; simp
theorem seek_some {k : ByteArray} {t : Tr α} {b : Nat} {l r : Tr α} {k0 : ByteArray} {v0 : α} (h : seek k t = .node b l k0 v0 r) : k0 = k ∧ (k, v0) ∈ items t := by
 induction t with
 | nil => cases h
 | node b1 l1 k1 v1 r1 ih1 ih2 =>
  simp only [seek] at h
  by_cases h1 : klt k k1 = true
  · rw [if_pos h1] at h
    obtain ⟨g1, g2⟩ := ih1 h
    exact ⟨g1, by simp only [items, List.mem_append]; exact .inl g2⟩
  · rw [if_neg h1] at h
    by_cases h2 : klt k1 k = true
    · rw [if_pos h2] at h
      obtain ⟨g1, g2⟩ := ih2 h
      exact ⟨g1, by simp only [items, List.mem_append, List.mem_cons]; exact .inr (.inr g2)⟩
    · rw [if_neg h2] at h
      cases h
      have e := klt_tri (by simpa using h1) (by simpa using h2)
      subst e
      exact ⟨rfl, by simp [items]⟩
end
end Pm
end Go.Proofs.YtkjchoamdibolaaDoor
namespace Go.Proofs.YtkjchoamdibolaaDoor
namespace St
open Go.Op
theorem bl_append : ∀ (x y a b : List UInt8), x.length = y.length → bytesLess (x ++ a) (y ++ b) = (bytesLess x y || (x == y && bytesLess a b))
 | [], [], a, b, _ => by cases b <;> cases a <;> simp [bytesLess]
 | [], _ :: _, _, _, h => by simp at h
 | _ :: _, [], _, _, h => by simp at h
 | c :: x, d :: y, a, b, h => by
  have ih := bl_append x y a b (by simpa using h)
  simp only [List.cons_append, bytesLess, ih]
  by_cases e : c = d
  · subst e; simp
  · have : (c == d) = false := by simpa using e
    simp [this, e]
def dig : Nat → Nat → List UInt8
 | 0, _ => []
 | k + 1, n => UInt8.ofNat (n / 256 ^ k % 256) :: dig k n
theorem dig_length (k n : Nat) : (dig k n).length = k := by induction k with
 | zero => rfl
 | succ k ih => simp [dig, ih]
theorem dig_lt_eq (k : Nat) : ∀ n m : Nat, bytesLess (dig k n) (dig k m) = decide (n % 256 ^ k < m % 256 ^ k) ∧ (dig k n = dig k m ↔ n % 256 ^ k = m % 256 ^ k) := by
 induction k with
 | zero => intro n m; simp [dig, bytesLess, Nat.mod_one]
 | succ k ih =>
  intro n m
  obtain ⟨h1, h2⟩ := ih n m
  have e1 : n % 256 ^ (k + 1) = n % 256 ^ k + 256 ^ k * (n / 256 ^ k % 256) := by rw [Nat.pow_succ]; exact Nat.mod_mul
  have e2 : m % 256 ^ (k + 1) = m % 256 ^ k + 256 ^ k * (m / 256 ^ k % 256) := by rw [Nat.pow_succ]; exact Nat.mod_mul
  have l1 : n / 256 ^ k % 256 < 256 := Nat.mod_lt _ (by omega)
  have l2 : m / 256 ^ k % 256 < 256 := Nat.mod_lt _ (by omega)
  have hp : 0 < 256 ^ k := Nat.pow_pos (by omega)
  have r1 : n % 256 ^ k < 256 ^ k := Nat.mod_lt _ hp
  have r2 : m % 256 ^ k < 256 ^ k := Nat.mod_lt _ hp
  rw [e1, e2]
  simp only [dig, bytesLess, h1, List.cons.injEq, h2]
  clear e1 e2 h1 h2 ih
  generalize n / 256 ^ k % 256 = a at *
  generalize m / 256 ^ k % 256 = b at *
  generalize n % 256 ^ k = x at *
  generalize m % 256 ^ k = y at *
  generalize 256 ^ k = P at *
  have ta : (UInt8.ofNat a).toNat = a := by simp [UInt8.toNat_ofNat']; omega
  have tb : (UInt8.ofNat b).toNat = b := by simp [UInt8.toNat_ofNat']; omega
  have hlt : (UInt8.ofNat a < UInt8.ofNat b) ↔ a < b := by rw [UInt8.lt_iff_toNat_lt, ta, tb]
  have heq : (UInt8.ofNat a = UInt8.ofNat b) ↔ a = b := ⟨fun h => by rw [← ta, ← tb, h], fun h => by rw [h]⟩
  simp only [heq]
  rcases Nat.lt_trichotomy a b with h | h | h
  · have hm : P * a + P ≤ P * b := by rw [← Nat.mul_succ]; exact Nat.mul_le_mul_left P h
    refine ⟨?_, by omega⟩
    rw [decide_eq_true (hlt.2 h), decide_eq_true (show x + P * a < y + P * b by omega)]; rfl
  · subst h
    refine ⟨?_, by omega⟩
    have : ¬ UInt8.ofNat a < UInt8.ofNat a := fun h => by have := hlt.1 h; omega
    rw [decide_eq_false this]
    simp
  · have hm : P * b + P ≤ P * a := by rw [← Nat.mul_succ]; exact Nat.mul_le_mul_left P h
    refine ⟨?_, by omega⟩
    have hn : ¬ UInt8.ofNat a < UInt8.ofNat b := fun h' => by have := hlt.1 h'; omega
    have hq : (UInt8.ofNat a == UInt8.ofNat b) = false := by
     have : ¬ UInt8.ofNat a = UInt8.ofNat b := fun h' => by have := heq.1 h'; omega
     simpa using this
    rw [decide_eq_false hn, hq, decide_eq_false (show ¬ x + P * a < y + P * b by omega)]; rfl
theorem bl_term : ∀ (x y a b : List UInt8), (∀ c ∈ x, (0 : UInt8) < c) → (∀ c ∈ y, (0 : UInt8) < c) → bytesLess (x ++ 0 :: a) (y ++ 0 :: b) = (bytesLess x y || (x == y && bytesLess a b))
 | [], [], a, b, _, _ => by simp [bytesLess]
 | [], d :: y, a, b, _, h => by
  have := h d List.mem_cons_self
  simp [bytesLess, this]
 | c :: x, [], a, b, h, _ => by
  have h1 := h c List.mem_cons_self
  have h2 : ¬ c < 0 := fun h' => by rw [UInt8.lt_iff_toNat_lt] at h1 h'; omega
  have h3 : (c == 0) = false := by
   have : ¬ c = 0 := fun e => by rw [e] at h1; rw [UInt8.lt_iff_toNat_lt] at h1; omega
   simpa using this
  simp [bytesLess, h2, h3]
 | c :: x, d :: y, a, b, h1, h2 => by
  have ih := bl_term x y a b (fun e he => h1 e (List.mem_cons_of_mem _ he)) (fun e he => h2 e (List.mem_cons_of_mem _ he))
  simp only [List.cons_append, bytesLess, ih]
  by_cases e : c = d
  · subst e; simp
  · have : (c == d) = false := by simpa using e
    simp [this, e]
structure Stp where
 gen : Nat
 repo : Nat
 label : List UInt8
 num : Nat
 idx : Nat
deriving DecidableEq
def okLabel (l : List UInt8) : Bool := l.all (fun c => decide (97 ≤ c.toNat) && decide (c.toNat ≤ 122)) && decide (1 ≤ l.length) && decide (l.length ≤ 12)
def Stp.ok (s : Stp) : Bool := decide (1 ≤ s.gen) && decide (s.gen ≤ 2 ^ 62) && decide (s.repo < 8) && okLabel s.label && decide (1 ≤ s.num) && decide (s.num ≤ 2 ^ 62) && decide (s.idx < 64)
def Stp.key (s : Stp) : List UInt8 := dig 8 s.gen ++ (dig 1 s.repo ++ (s.label ++ 0 :: (dig 8 s.num ++ dig 1 s.idx)))
def Stp.lt (s t : Stp) : Bool := decide (s.gen < t.gen) || (s.gen == t.gen && (decide (s.repo < t.repo) || (s.repo == t.repo && (bytesLess s.label t.label || (s.label == t.label && (decide (s.num < t.num) || (s.num == t.num && decide (s.idx < t.idx))))))))
theorem okLabel_pos {l : List UInt8} (h : okLabel l = true) : ∀ c ∈ l, (0 : UInt8) < c := fun c hc => by
 unfold okLabel at h
 simp only [Bool.and_eq_true, List.all_eq_true, decide_eq_true_eq] at h
 have := (h.1.1 c hc).1
 rw [UInt8.lt_iff_toNat_lt]
 show 0 < c.toNat
 omega
theorem ok_bounds {s : Stp} (h : s.ok = true) : s.gen % 256 ^ 8 = s.gen ∧ s.repo % 256 ^ 1 = s.repo ∧ s.num % 256 ^ 8 = s.num ∧ s.idx % 256 ^ 1 = s.idx ∧ okLabel s.label = true := by
 unfold Stp.ok at h
 simp only [Bool.and_eq_true, decide_eq_true_eq] at h
 obtain ⟨⟨⟨⟨⟨⟨h1, h2⟩, h3⟩, h4⟩, h5⟩, h6⟩, h7⟩ := h
 refine ⟨Nat.mod_eq_of_lt ?_, Nat.mod_eq_of_lt (by omega), Nat.mod_eq_of_lt ?_, Nat.mod_eq_of_lt (by omega), h4⟩
 · have : (2 : Nat) ^ 62 < 256 ^ 8 := by decide
   omega
 · have : (2 : Nat) ^ 62 < 256 ^ 8 := by decide
   omega
theorem key_lt {s t : Stp} (hs : s.ok = true) (ht : t.ok = true) : bytesLess s.key t.key = s.lt t := by
 obtain ⟨a1, a2, a3, a4, a5⟩ := ok_bounds hs
 obtain ⟨b1, b2, b3, b4, b5⟩ := ok_bounds ht
 have d8 : ∀ n m : Nat, n % 256 ^ 8 = n → m % 256 ^ 8 = m → (dig 8 n == dig 8 m) = (n == m) := fun n m hn hm => by
  have := (dig_lt_eq 8 n m).2
  rw [hn, hm] at this
  by_cases e : n = m
  · subst e; simp
  · have h2 : ¬ dig 8 n = dig 8 m := fun h => e (this.1 h)
    rw [beq_eq_false_iff_ne.2 h2, beq_eq_false_iff_ne.2 e]
 have d1 : ∀ n m : Nat, n % 256 ^ 1 = n → m % 256 ^ 1 = m → (dig 1 n == dig 1 m) = (n == m) := fun n m hn hm => by
  have := (dig_lt_eq 1 n m).2
  rw [hn, hm] at this
  by_cases e : n = m
  · subst e; simp
  · have h2 : ¬ dig 1 n = dig 1 m := fun h => e (this.1 h)
    rw [beq_eq_false_iff_ne.2 h2, beq_eq_false_iff_ne.2 e]
 unfold Stp.key Stp.lt
 rw [bl_append _ _ _ _ (by simp [dig_length]), bl_append _ _ _ _ (by simp [dig_length]), bl_term _ _ _ _ (okLabel_pos a5) (okLabel_pos b5), bl_append _ _ _ _ (by simp [dig_length])]
 rw [(dig_lt_eq 8 s.gen t.gen).1, (dig_lt_eq 1 s.repo t.repo).1, (dig_lt_eq 8 s.num t.num).1, (dig_lt_eq 1 s.idx t.idx).1, a1, a2, a3, a4, b1, b2, b3, b4, d8 _ _ a1 b1, d8 _ _ a3 b3, d1 _ _ a2 b2]
end St
end Go.Proofs.YtkjchoamdibolaaDoor
namespace Go.Proofs.YtkjchoamdibolaaDoor
namespace St
open Pm
abbrev El := Stp × ByteArray
def keyB (s : Stp) : ByteArray := ⟨s.key.toArray⟩
theorem keyB_klt {s t : Stp} (hs : s.ok = true) (ht : t.ok = true) : klt (keyB s) (keyB t) = s.lt t := by
 rw [← key_lt hs ht]
 unfold klt keyB
 rw [ByteArray.toList_eq, ByteArray.toList_eq]
theorem lt_irrefl {s : Stp} (hs : s.ok = true) : s.lt s = false := by rw [← keyB_klt hs hs]; exact klt_irrefl _
theorem lt_trans {s t u : Stp} (hs : s.ok = true) (ht : t.ok = true) (hu : u.ok = true) (h : s.lt t = true) (k : t.lt u = true) : s.lt u = true := by
 rw [← keyB_klt hs ht] at h
 rw [← keyB_klt ht hu] at k
 rw [← keyB_klt hs hu]
 exact klt_trans h k
def enc (e : El) : ByteArray × ByteArray := (keyB e.1, e.2)
end St
end Go.Proofs.YtkjchoamdibolaaDoor
namespace Go.Proofs.YtkjchoamdibolaaDoor
namespace St
open Pm
structure Sv where
 g : Int
 r : Int
 l : ByteArray
 n : Int
 i : Int
deriving DecidableEq
def okBr (r : Int) (l : ByteArray) : Bool := decide (0 ≤ r) && decide (r < 8) && okLabel l.data.toList
def okNm (r : Int) (l : ByteArray) (n : Int) : Bool := okBr r l && decide (1 ≤ n) && decide (n ≤ 4611686018427387904)
def Sv.ok (s : Sv) : Bool := decide (1 ≤ s.g) && decide (s.g ≤ 4611686018427387904) && okNm s.r s.l s.n && decide (0 ≤ s.i) && decide (s.i < 64)
def Sv.st (s : Sv) : Stp := ⟨s.g.toNat, s.r.toNat, s.l.data.toList, s.n.toNat, s.i.toNat⟩
def numC (a b : Int) : Int := if a < b then -1 else if a > b then 1 else 0
def txtC (a b : ByteArray) : Int := if klt a b = true then -1 else if klt b a = true then 1 else 0
end St
end Go.Proofs.YtkjchoamdibolaaDoor
namespace Go.Proofs.YtkjchoamdibolaaDoor
namespace Ku
open Go.Op (bytesLess)
open St
def pathG (l : List ByteArray) : Bool := decide (l.length ≤ 6) && l.all keyG
def pathC : List ByteArray → List ByteArray → Int
 | [], [] => 0
 | [], _ :: _ => -1
 | _ :: _, [] => 1
 | x :: a, y :: b => if txtC x y = 0 then pathC a b else txtC x y
theorem cmpB_eq : ∀ (l m : List UInt8), Lib.compareBytes l m = if bytesLess l m = true then -1 else if bytesLess m l = true then 1 else 0
 | [], [] => by simp [Lib.compareBytes, bytesLess]
 | [], _ :: _ => by simp [Lib.compareBytes, bytesLess]
 | _ :: _, [] => by simp [Lib.compareBytes, bytesLess]
 | a :: la, b :: lb => by
  have ih := cmpB_eq la lb
  unfold Lib.compareBytes
  by_cases h1 : a < b
  · rw [if_pos h1]; simp [bytesLess, h1]
  · rw [if_neg h1]
    by_cases h2 : b < a
    · rw [if_pos h2]
      have h3 : ¬ a = b := fun e => by rw [e] at h2; exact absurd h2 (by rw [UInt8.lt_iff_toNat_lt]; omega)
      simp [bytesLess, h1, h2, h3]
    · rw [if_neg h2]
      have h3 : a = b := by
       have n1 : ¬ a.toNat < b.toNat := fun h => h1 (UInt8.lt_iff_toNat_lt.2 h)
       have n2 : ¬ b.toNat < a.toNat := fun h => h2 (UInt8.lt_iff_toNat_lt.2 h)
       exact UInt8.toNat_inj.1 (by omega)
      subst h3
      rw [ih]
      simp [bytesLess, h1]
theorem cmpB_txt (a b : ByteArray) : Lib.compareBytes a.data.toList b.data.toList = txtC a b := by
 rw [cmpB_eq]
 unfold txtC Pm.klt
 rw [ByteArray.toList_eq, ByteArray.toList_eq]
theorem path_at {a b : List ByteArray} {k : Nat} (h1 : k < a.length) (h2 : k < b.length) : pathC (a.drop k) (b.drop k) = if txtC a[k] b[k] = 0 then pathC (a.drop (k + 1)) (b.drop (k + 1)) else txtC a[k] b[k] := by
 rw [List.drop_eq_getElem_cons h1, List.drop_eq_getElem_cons h2]
 rfl
theorem path_end {a b : List ByteArray} {k : Nat} (h1 : k ≤ a.length) (h2 : k ≤ b.length) (h : k = a.length ∨ k = b.length) : pathC (a.drop k) (b.drop k) = numC (a.length : Int) (b.length : Int) := by
 unfold numC
 rcases h with rfl | rfl
 · rw [List.drop_length]
   by_cases e : a.length = b.length
   · rw [e, List.drop_length, if_neg (by omega), if_neg (by omega)]; rfl
   · rw [List.drop_eq_getElem_cons (show a.length < b.length by omega), if_pos (by omega)]; rfl
 · rw [List.drop_length]
   by_cases e : a.length = b.length
   · rw [← e, List.drop_length, if_neg (by omega), if_neg (by omega)]; rfl
   · rw [List.drop_eq_getElem_cons (show b.length < a.length by omega), if_neg (by omega), if_pos (by omega)]; rfl
end Ku
end Go.Proofs.YtkjchoamdibolaaDoor
namespace Go.Proofs.YtkjchoamdibolaaDoor
open Go.RowKit
def txV (l : List ByteArray) : List Value := l.map Value.string
theorem tx_get {w : World} {a : Option Addr} {l : List ByteArray} (h : CellsAt w a (txV l)) (k : Nat) (hk : k < l.length) : ∃ b off, a = some ⟨b, off, none⟩ ∧ w.cell? ⟨b, off + k, none⟩ = some (.string l[k]) := h.get k _ (by simp [txV, hk])
end Go.Proofs.YtkjchoamdibolaaDoor
namespace Go.Proofs.YtkjchoamdibolaaDoor
open Go.RowKit
def preOf (ops : Array Oper) (i : Nat) : List Nat := match ops[i]? with
 | some o => (o.after.toList.filter fun e => Region.binds .any e).map fun e => e.on
 | none => []
def upB (ops : Array Oper) : Bool := (List.range ops.size).all fun i => (preOf ops i).all fun j => decide (j < i)
section
variable {P : Program} {ops : Array Oper} {Q : Exit → Act → World → Prop}
theorem pre_mem {i : Nat} {o : Oper} (ho : ops[i]? = some o) {j : Nat} : j ∈ preOf ops i ↔ ∃ e ∈ o.after, Region.binds .any e = true ∧ e.on = j := by
 unfold preOf
 rw [ho]
 simp only [List.mem_map, List.mem_filter, Array.mem_toList_iff]
 constructor
 · rintro ⟨e, ⟨h1, h2⟩, h3⟩; exact ⟨e, h1, h2, h3⟩
 · rintro ⟨e, h1, h2, h3⟩; exact ⟨e, ⟨h1, h2⟩, h3⟩
theorem ready_nil (hup : upB ops = true) {listed : Array Bool} (hs : listed.size = ops.size) (h : Region.ready .any ops listed = []) : ∀ i, i < ops.size → listed.getD i false = true := by
 intro i
 induction i using Nat.strongRecOn with
 | _ i ih =>
  intro hi
  cases e : listed.getD i false with
  | true => rfl
  | false =>
   have : i ∈ Region.ready .any ops listed := by
    rw [mem_ready]
    refine ⟨by simp [hs, hi] at e ⊢; exact e, _, Array.getElem?_eq_getElem hi, fun ed hed hb => ?_⟩
    have hm : ed.on ∈ preOf ops i := (pre_mem (Array.getElem?_eq_getElem hi)).2 ⟨ed, hed, hb, rfl⟩
    have h1 := List.all_eq_true.1 hup i (List.mem_range.2 hi)
    have h2 := List.all_eq_true.1 h1 _ hm
    have h3 : ed.on < i := of_decide_eq_true h2
    exact ih _ h3 (by omega)
   rw [h] at this
   cases this
theorem getD_set (listed : Array Bool) (i : Nat) (hi : i < listed.size) : (fun j => (listed.setIfInBounds i true).getD j false) = fun j => j == i || listed.getD j false := by
 funext j
 by_cases h : j = i
 · subst h; simp [hi]
 · have : (listed.setIfInBounds i true)[j]? = listed[j]? := Array.getElem?_setIfInBounds_ne (Ne.symm h)
   simp [Array.getD_eq_getD_getElem?, this, h]
theorem wpAnyH_inv (J : (Nat → Bool) → Act → World → Prop) (hup : upB ops = true)
 (step : ∀ i, i < ops.size → ∀ L a w, J L a w → L i = false → (∀ j ∈ preOf ops i, L j = true) → wpOp P ops Q i (fun a' w' => J (fun j => j == i || L j) a' w') a w)
 (fin : ∀ L a w, J L a w → (∀ i, i < ops.size → L i = true) → Q .normal a w) :
 ∀ (fuel : Nat) (listed : Array Bool) (a : Act) (w : World), listed.size = ops.size → (List.range ops.size).countP (fun i => !listed.getD i false) ≤ fuel → J (fun j => listed.getD j false) a w → wpAnyH P .any ops Q (fun _ => True) fuel listed a w := by
 intro fuel
 induction fuel with
 | zero =>
  intro listed a w hs hc hJ
  have hall : ∀ i, i < ops.size → listed.getD i false = true := by
   intro i hi
   have h0 := List.countP_eq_zero.1 (Nat.le_zero.1 hc) i (List.mem_range.2 hi)
   simpa using h0
  refine ⟨?_, fin _ _ _ hJ hall⟩
  rw [List.eq_nil_iff_forall_not_mem]
  intro i hi
  obtain ⟨h1, o, h2, _⟩ := mem_ready.1 hi
  have hlt := (Array.getElem?_eq_some_iff.1 h2).1
  have := hall i hlt
  simp [hs, hlt] at h1 this
  rw [h1] at this; cases this
 | succ fuel ih =>
  intro listed a w hs hc hJ
  refine ⟨fun h => fin _ _ _ hJ (ready_nil hup hs h), fun i hi => ?_⟩
  obtain ⟨h1, o, h2, h3⟩ := mem_ready.1 hi
  have hlt := (Array.getElem?_eq_some_iff.1 h2).1
  have hL : listed.getD i false = false := by simp [hs, hlt] at h1 ⊢; exact h1
  refine wpOp_mono (fun a' w' hJ' => ⟨trivial, ih _ a' w' (by simp [hs]) ?_ ?_⟩) (step i hlt _ a w hJ hL (fun j hj => by
   obtain ⟨e, he, hb, rfl⟩ := (pre_mem h2).1 hj
   exact h3 e he hb))
  · have e := getD_set listed i (by omega)
    have hlt2 : (List.range ops.size).countP (fun j => !(listed.setIfInBounds i true).getD j false) < (List.range ops.size).countP (fun j => !listed.getD j false) := by
     have e2 : (fun j => !(listed.setIfInBounds i true).getD j false) = fun j => (!(j == i)) && !listed.getD j false := by
      funext j
      have := congrFun e j
      rw [this]; simp
     rw [e2]
     have hp : (fun j => !listed.getD j false) i = true := by simp only [hL]; rfl
     have key : ∀ l : List Nat, i ∈ l → l.countP (fun j => (!(j == i)) && !listed.getD j false) < l.countP (fun j => !listed.getD j false) := by
      intro l
      induction l with
      | nil => intro h; cases h
      | cons x l ihl =>
       intro hm
       have hle : l.countP (fun j => (!(j == i)) && !listed.getD j false) ≤ l.countP (fun j => !listed.getD j false) :=
        List.countP_mono_left fun y _ hy => by simp only [Bool.and_eq_true] at hy; exact hy.2
       rw [List.countP_cons, List.countP_cons]
       by_cases hx : x = i
       · subst hx
         rw [if_neg (by simp), if_pos hp]
         omega
       · have := ihl ((List.mem_cons.1 hm).resolve_left (Ne.symm hx))
         have e3 : ((!(x == i)) && !listed.getD x false) = !listed.getD x false := by simp [hx]
         rw [e3]
         omega
     exact key _ (List.mem_range.2 hlt)
    omega
  · rw [getD_set listed i (by omega)]
    exact hJ'
theorem region_inv {id : Nat} {a : Act} {w : World} (J : (Nat → Bool) → Act → World → Prop) (hm : P.follows .mixedOrders = true) (hup : upB ops = true)
 (h0 : J (fun _ => false) a w.drew)
 (step : ∀ i, i < ops.size → ∀ L a w, J L a w → L i = false → (∀ j ∈ preOf ops i, L j = true) → wpOp P ops Q i (fun a' w' => J (fun j => j == i || L j) a' w') a w)
 (fin : ∀ L a w, J L a w → (∀ i, i < ops.size → L i = true) → Q .normal a w) : (Code.region id ops true).wp P Q a w := by
 refine wp_region_held_drew (S := fun _ => True) hm trivial fun _ => ?_
 refine wpAnyH_inv J hup step fin _ _ a w.drew (by simp) ?_ ?_
 · refine Nat.le_trans List.countP_le_length ?_
   simp
 · have e : (fun j => (Array.replicate ops.size false).getD j false) = fun _ => false := by
    funext j
    simp [Array.getD_eq_getD_getElem?, Array.getElem?_replicate]
    split <;> rfl
   rw [e]; exact h0
end
def regT (base : Array Value) (slots : List Nat) (f : Nat → Value) : Array Value := slots.foldl (fun t k => t.setIfInBounds k (f k)) base
def updF (f : Nat → Value) (d : Nat) (v : Value) (k : Nat) : Value := if k = d then v else f k
theorem regT_get (f : Nat → Value) : ∀ (slots : List Nat) (base : Array Value) (k : Nat), (regT base slots f)[k]? = if k ∈ slots ∧ k < base.size then some (f k) else base[k]?
 | [], base, k => by simp [regT]
 | d :: slots, base, k => by
  have h := regT_get f slots (base.setIfInBounds d (f d)) k
  unfold regT at h ⊢
  rw [List.foldl_cons, h]
  by_cases h1 : k ∈ slots ∧ k < base.size
  · rw [if_pos (by simpa using h1), if_pos ⟨List.mem_cons_of_mem _ h1.1, h1.2⟩]
  · rw [if_neg (by simpa using h1)]
    by_cases h2 : k = d
    · subst h2
      by_cases h3 : k < base.size
      · rw [if_pos ⟨List.mem_cons_self, h3⟩]; simp [h3]
      · rw [if_neg (fun h => h3 h.2)]; simp [h3]
    · rw [if_neg (by
       rintro ⟨h3, h4⟩
       exact h1 ⟨(List.mem_cons.1 h3).resolve_left h2, h4⟩)]
      exact Array.getElem?_setIfInBounds_ne (Ne.symm h2)
theorem regT_id (base : Array Value) (slots : List Nat) : regT base slots (fun k => base.getD k undef) = base := by
 apply Array.ext_getElem?
 intro k
 rw [regT_get]
 split
 · rename_i h; simp [Array.getD_eq_getD_getElem?, h.2]
 · rfl
theorem regT_put (base : Array Value) (slots : List Nat) (f : Nat → Value) (d : Nat) (v : Value) (hd : d ∈ slots) : (regT base slots f).setIfInBounds d v = regT base slots (updF f d v) := by
 apply Array.ext_getElem?
 intro k
 have hsz : ∀ g, (regT base slots g).size = base.size := fun g => by
  unfold regT
  clear hd
  induction slots generalizing base with
  | nil => rfl
  | cons x l ih => rw [List.foldl_cons, ih]; simp
 rw [regT_get]
 by_cases h : k = d
 · subst h
   by_cases h2 : k < base.size
   · rw [if_pos ⟨hd, h2⟩]; simp [hsz, h2, updF]
   · rw [if_neg (fun h => h2 h.2)]; simp [hsz, h2]
 · rw [Array.getElem?_setIfInBounds_ne (Ne.symm h), regT_get]
   simp [updF, h]
theorem regT_in {base : Array Value} {slots : List Nat} {f : Nat → Value} {k : Nat} (h : k ∈ slots) (h2 : k < base.size) : (regT base slots f).getD k undef = f k := by
 rw [Array.getD_eq_getD_getElem?, regT_get, if_pos ⟨h, h2⟩]; rfl
theorem regT_out {base : Array Value} {slots : List Nat} {f : Nat → Value} {k : Nat} (h : k ∉ slots) : (regT base slots f).getD k undef = base.getD k undef := by
 rw [Array.getD_eq_getD_getElem?, regT_get, if_neg (fun hh => h hh.1), Array.getD_eq_getD_getElem?]
section
variable {P : Program} {ops : Array Oper} {Q : Exit → Act → World → Prop}
variable {base : Array Value} {df : List Deferred} {slots : List Nat} {V : List (Nat × Nat × Value)} {M : (Nat → Bool) → (Nat → Value) → World → Prop}
end
structure Als (T : TypeId) (B : Nat) (rows : List (Nat × Nat × Nat)) (z : Array Value) (vv : Nat → Array Value) (X : Nat → Bool) (f : Nat → Value) (w : World) : Prop where
 a : ∀ r ∈ rows, X r.1 = false → X r.2.1 = false
 b : ∀ r ∈ rows, X r.1 = true → ∃ cc, f r.2.2 = .pointer (some ⟨cc, 0, none⟩) ∧ B ≤ cc ∧ w.heap[cc]? = some (.cells (if X r.2.1 = true then vv r.2.2 else z) T (0, 0))
 n : ∀ r ∈ rows, ∀ r' ∈ rows, r.2.2 ≠ r'.2.2 → X r.1 = true → X r'.1 = true → f r.2.2 ≠ f r'.2.2
def rowsOK (rows : List (Nat × Nat × Nat)) : Bool := rows.all fun r => rows.all fun r' => (decide (r.1 = r'.1) == decide (r.2.2 = r'.2.2)) && (decide (r.2.1 = r'.2.1) == decide (r.2.2 = r'.2.2)) && !decide (r.1 = r'.2.1)
theorem rowsOK_out {rows : List (Nat × Nat × Nat)} (h : rowsOK rows = true) {r r' : Nat × Nat × Nat} (hr : r ∈ rows) (hr' : r' ∈ rows) : (r.1 = r'.1 ↔ r.2.2 = r'.2.2) ∧ (r.2.1 = r'.2.1 ↔ r.2.2 = r'.2.2) ∧ r.1 ≠ r'.2.1 := by
 have h1 := List.all_eq_true.1 (List.all_eq_true.1 h r hr) r' hr'
 simp only [Bool.and_eq_true, beq_iff_eq, decide_eq_decide, Bool.not_eq_true', decide_eq_false_iff_not] at h1
 exact ⟨h1.1.1, h1.1.2, h1.2⟩
section
variable {T : TypeId} {B : Nat} {rows : List (Nat × Nat × Nat)} {z : Array Value} {vv : Nat → Array Value} {X X' : Nat → Bool} {f f' : Nat → Value} {w w' : World}
theorem Als.alloc (h : Als T B rows z vv X f w) (hok : rowsOK rows = true) (hB : B ≤ w.heap.size) {r : Nat × Nat × Nat} (hr : r ∈ rows) (hx : X r.1 = false) :
 Als T B rows z vv (fun j => j == r.1 || X j) (updF f r.2.2 (.pointer (some ⟨w.heap.size, 0, none⟩))) (w.alloc (.cells z T)) := by
 have hnew : ∀ r' ∈ rows, X r'.1 = true → f r'.2.2 ≠ .pointer (some ⟨w.heap.size, 0, none⟩) := fun r' hr' hx' e => by
  obtain ⟨cc, e1, e2, e3⟩ := h.b r' hr' hx'
  rw [e1] at e
  have : cc = w.heap.size := by simpa using e
  have h2 := (Array.getElem?_eq_some_iff.1 e3).1
  omega
 have hs : ∀ r' ∈ rows, (r'.2.1 == r.1 || X r'.2.1) = X r'.2.1 := fun r' hr' => by
  have := (rowsOK_out hok hr hr').2.2
  have e : (r'.2.1 == r.1) = false := by simp; exact fun e => this e.symm
  rw [e]; rfl
 refine ⟨fun r' hr' hx' => ?_, fun r' hr' hx' => ?_, fun r1 hr1 r2 hr2 hn hx1 hx2 => ?_⟩
 · simp only [hs r' hr']
   refine h.a r' hr' ?_
   simp only [Bool.or_eq_false_iff] at hx'
   exact hx'.2
 · simp only [hs r' hr']
   by_cases e : r'.2.2 = r.2.2
   · have e1 := (rowsOK_out hok hr' hr).1.2 e
     have e2 := (rowsOK_out hok hr' hr).2.1.2 e
     refine ⟨w.heap.size, by unfold updF; rw [if_pos e], hB, ?_⟩
     rw [if_neg (by rw [h.a r' hr' (by rw [e1]; exact hx)]; decide)]
     exact heap_alloc_new w _
   · have e1 : r'.1 ≠ r.1 := fun e1 => e ((rowsOK_out hok hr' hr).1.1 e1)
     have hx2 : X r'.1 = true := by simpa [e1] using hx'
     obtain ⟨cc, h1, h2, h3⟩ := h.b r' hr' hx2
     exact ⟨cc, by unfold updF; rw [if_neg e]; exact h1, h2, ((below_new w _).block cc (Array.getElem?_eq_some_iff.1 h3).1).trans h3⟩
 · unfold updF
   have ha : ∀ r' ∈ rows, r'.2.2 ≠ r.2.2 → (r'.1 == r.1 || X r'.1) = true → X r'.1 = true := fun r' hr' hn' hx' => by
    have e1 : r'.1 ≠ r.1 := fun e1 => hn' ((rowsOK_out hok hr' hr).1.1 e1)
    simpa [e1] using hx'
   by_cases e1 : r1.2.2 = r.2.2
   · have e2 : r2.2.2 ≠ r.2.2 := fun e2 => hn (e1.trans e2.symm)
     rw [if_pos e1, if_neg e2]
     exact (hnew r2 hr2 (ha r2 hr2 e2 hx2)).symm
   · rw [if_neg e1]
     by_cases e2 : r2.2.2 = r.2.2
     · rw [if_pos e2]
       exact hnew r1 hr1 (ha r1 hr1 e1 hx1)
     · rw [if_neg e2]
       exact h.n r1 hr1 r2 hr2 hn (ha r1 hr1 e1 hx1) (ha r2 hr2 e2 hx2)
end
end Go.Proofs.YtkjchoamdibolaaDoor
