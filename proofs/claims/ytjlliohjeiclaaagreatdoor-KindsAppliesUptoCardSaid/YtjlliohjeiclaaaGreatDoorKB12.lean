/- Words, contracts and walks that the proof stands on (KqE KnV). -/
import Derived.Test.YtjlliohjeiclaaaGreatDoorKB10
import Derived.Test.YtjlliohjeiclaaaGreatDoorKB11
namespace Go.Proofs.YtjlliohjeiclaaaGreatDoor
open Go.RowKit St Pm Ku Kn
namespace Kn
theorem insU_old (t : ByteArray) : ∀ (out : List ByteArray) (p : Nat) (hp : p < out.length), (∀ y ∈ out.take p, klt y t = true) → out[p] = t → insU t out = out
 | [], p, hp, _, _ => by simp at hp
 | x :: r, 0, _, _, he => by
  have he : x = t := he
  subst he
  unfold insU
  rw [if_neg (by rw [klt_irrefl]; simp), if_pos rfl]
 | x :: r, p + 1, hp, h, he => by
  have h1 : klt x t = true := h x (by simp)
  unfold insU
  rw [if_pos h1, insU_old t r p (by simpa using hp) (fun y hy => h y (by simp [hy])) (by simpa using he)]
theorem insU_new (t : ByteArray) : ∀ (out : List ByteArray) (p : Nat), p ≤ out.length → (∀ y ∈ out.take p, klt y t = true) → (∀ hp : p < out.length, klt out[p] t = false ∧ out[p] ≠ t) → insU t out = out.take p ++ t :: out.drop p
 | [], p, hp, _, _ => by
  have : p = 0 := by simpa using hp
  subst this; rfl
 | x :: r, 0, _, _, he => by
  obtain ⟨h1, h2⟩ := he (by simp)
  have h1 : klt x t = false := h1
  have h2 : x ≠ t := h2
  unfold insU
  rw [if_neg (by rw [h1]; simp), if_neg h2]
  rfl
 | x :: r, p + 1, hp, h, he => by
  have h1 : klt x t = true := h x (by simp)
  unfold insU
  rw [if_pos h1, insU_new t r p (by simpa using hp) (fun y hy => h y (by simp [hy])) (fun hp' => (show klt r[p] t = false ∧ r[p] ≠ t from he (by simpa using hp')))]
  rfl
theorem showG_two (l : List Ev) (q : Nat) (h : q < l.length) : showG 2 (l.take (q + 1)) = insU l[q].2 (showG 2 (l.take q)) := by
 unfold showG
 rw [if_pos rfl, if_pos rfl, List.take_succ_eq_append_getElem h, List.map_append, List.map_cons, List.map_nil, setT_snoc]
theorem showG_other (k : Int) (hk : k ≠ 2) (l : List Ev) (q : Nat) (h : q < l.length) : showG k (l.take (q + 1)) = showG k (l.take q) ++ [l[q].2] := by
 unfold showG
 rw [if_neg hk, if_neg hk, List.take_succ_eq_append_getElem h, List.map_append, List.map_cons, List.map_nil]
end Kn
open Kn
theorem txV_oneE (l : List ByteArray) : ∀ u ∈ txV l, u.oneCell' = true := fun u hu => by
 obtain ⟨x, _, rfl⟩ := List.mem_map.1 hu
 rfl
set_option maxRecDepth 100000 in
set_option maxHeartbeats 8000000 in
theorem kr_Texts (k m : Int) (l : List Ev) (a : Option Addr) (n c : Nat) (w : World) (hl : CellsAt w a (elsV l)) (hn : n = l.length) (hb : n ≤ 100000) :
 Calls Tryz.prog 44 #[.agg #[.int .i64 k, .int .i64 m, .slice a n c]] w fun e w' => ∃ (a' : Option Addr) (n' c' : Nat), e = .returned (.slice a' n' c') ∧ CellsAt w' a' (txV (showG k l)) ∧ n' = (showG k l).length ∧ Below w.heap.size w w' := by
 have HL := Lib.hid hl
 have HN := Lib.hid hn
 have ST := Lib.hid sxN
 clear hl hn
 have HC : Hid (Chain [w] w) := Lib.hid (Chain.one w)
 go_enter Tryz.func44, Tryz.ntmps44
 go_upto_region 1 with (fail)
 obtain ⟨z, hz⟩ : ∃ c, w.heap.size = c := ⟨_, rfl⟩
 try rw [hz]
 obtain ⟨w1, hw1⟩ : ∃ X, allocs w [.cells #[.int .i64 k, .int .i64 m, .slice a n c] 79] = X := ⟨_, rfl⟩
 rw [show w.alloc (.cells #[.int .i64 k, .int .i64 m, .slice a n c] 79) = w1 from hw1]
 have hb : Below w.heap.size w w1 := by rw [← hw1]; exact allocs_below _ _
 have HV : Hid (w1.heap[z]? = some (.cells #[.int .i64 k, .int .i64 m, .slice a n c] 79 (0, 0))) := Lib.hid (by have := allocs_get [.cells #[.int .i64 k, .int .i64 m, .slice a n c] 79] w 0 _ rfl; rw [hw1, hz] at this; exact this)
 have Sz : Hid (w.heap.size = z) := Lib.hid hz
 replace HC := Lib.hid (HC.out.push hb)
 clear hb hw1 hz
 have HL1 := Lib.hid (HL.out.below (HC.out.to w (by simp)) rfl)
 have BW := Lib.hid (HC.out.to w (by simp))
 clear HC
 go_wp2_with fail
 go_loopw [3, 4] (fun v i wr => ∃ (q : Nat) (wq : World) (av : Option Addr) (an ac : Nat), wq = wr ∧ i = .int .i64 (q : Int) ∧ q ≤ n ∧ v = .slice av an ac ∧ Hid (an = (showG k (l.take q)).length) ∧ Hid (wq.ownsRow w1.heap.size 9 1 (.slice av an ac) an (txV (showG k (l.take q)))) ∧ Hid (Below w1.heap.size w1 wq)) (fun _ i _ => n - (intOf i).toNat)
 case atStart => exact ⟨0, _, none, 0, 0, rfl, rfl, Nat.zero_le _, rfl, Lib.hid (by unfold showG; split <;> rfl), Lib.hid ⟨by unfold showG; split <;> rfl, Or.inl ⟨rfl, rfl⟩⟩, Lib.hid (Below.refl _ _)⟩
 case round =>
  obtain ⟨q, wq, av, an, ac, rfl, rfl, hq, rfl, HAN, HO, HB⟩ := hrel
  have RV := Lib.hid (boxStays HV.out HB.out)
  have k0 := cell_of_row _ z 0 _ _ _ RV.out
  have k2 := cell_of_row _ z 2 _ _ _ RV.out
  have BAN : an ≤ 100000 := by
   have h1 := HAN.out
   have h2 := showG_len k (l.take q)
   rw [List.length_take] at h2
   omega
  by_cases hlt : q < n
  · have hqi : (q : Int) < (n : Int) := by omega
    have hql : q < l.length := by have := HN.out; omega
    obtain ⟨ba, oa, ha, cx⟩ := els_get (HL1.out.below HB.out rfl) q hql
    subst ha
    have p5 := cx.c5
    have S2 : Hid (k = 2 → showG k (l.take (q + 1)) = insU l[q].2 (showG k (l.take q))) := Lib.hid (fun h => by subst h; exact showG_two l q hql)
    have S1 : Hid (k ≠ 2 → showG k (l.take (q + 1)) = showG k (l.take q) ++ [l[q].2]) := Lib.hid (fun h => showG_other k h l q hql)
    obtain ⟨t, ht⟩ : ∃ t, l[q].2 = t := ⟨_, rfl⟩
    rw [ht] at p5 S1 S2
    clear ht cx
    obtain ⟨out, hout⟩ : ∃ o, showG k (l.take q) = o := ⟨_, rfl⟩
    rw [hout] at HAN HO S1 S2
    clear hout
    by_cases hk : k = 2
    · have hkb : (k != 2) = false := by simp [hk]
      have SN := Lib.hid (S2.out hk)
      clear hk S1 S2
      go_upto_block 2 with (fail)
      clear k0 k2 p5
      go_cut [6] (fun u6 wx => ∃ p : Nat, u6 = .int .i64 (p : Int) ∧ p ≤ an ∧ Hid (∀ y ∈ out.take p, klt y t = true) ∧ Hid (∀ hp : p < out.length, klt out[p] t = false) ∧ wq = wx)
      case first =>
       go_wp2_with fail
       go_loopw [6] (fun u6 wr => ∃ p : Nat, u6 = .int .i64 (p : Int) ∧ p ≤ an ∧ Hid (∀ y ∈ out.take p, klt y t = true) ∧ wq = wr) (fun u6 _ => an - (intOf u6).toNat)
       case atStart => exact ⟨0, rfl, Nat.zero_le _, Lib.hid (fun y hy => (by cases hy)), rfl⟩
       case round =>
        obtain ⟨p, rfl, hp, HT, rfl⟩ := hrel
        by_cases hlt2 : p < an
        · have hpi : (p : Int) < (an : Int) := by omega
          have hpo : p < out.length := by have := HAN.out; omega
          obtain ⟨bb, ob, hab, py⟩ := tx_get (CellsAt.ownN HO.out) p hpo
          subst hab
          have TS : Hid (klt out[p] t = true → ∀ y ∈ out.take (p + 1), klt y t = true) := Lib.hid (fun h y hy => by
           rw [List.take_succ_eq_append_getElem hpo] at hy
           rcases List.mem_append.1 hy with h1 | h1
           · exact HT.out y h1
           · rw [show y = out[p] by simpa using h1]; exact h)
          have TF : Hid (klt out[p] t = false → ∀ hp : p < out.length, klt out[p] t = false) := Lib.hid (fun h _ => h)
          obtain ⟨y, hy⟩ : ∃ y, out[p] = y := ⟨_, rfl⟩
          rw [hy] at py TS
          have TF2 : Hid (klt y t = false → ∀ hp : p < out.length, klt out[p] t = false) := Lib.hid (fun h hp => by rw [hy]; exact h)
          clear hy TF
          by_cases hkl : klt y t = true
          · have hd : Go.Op.bytesLess y.toList t.toList = true := hkl
            have H := Lib.hid (TS.out hkl)
            clear hkl
            go_wp2_with fail
            go_roundw
            case rel => exact ⟨p + 1, by go_num, by omega, H, by first | trivial | rfl⟩
            case measure => simp [intOf]; omega
          · have hkl' : klt y t = false := by simpa using hkl
            have hd : Go.Op.bytesLess y.toList t.toList = false := hkl'
            have H := Lib.hid (TF2.out hkl')
            clear hkl hkl'
            go_wp2_with fail
            go_meet
            exact ⟨p, rfl, hp, HT, H, rfl⟩
        · have hpi : ¬ (p : Int) < (an : Int) := by omega
          have H : Hid (∀ hp : p < out.length, klt out[p] t = false) := Lib.hid (fun hp' => by have := HAN.out; omega)
          go_wp2_with fail
          go_meet
          exact ⟨p, rfl, hp, HT, H, rfl⟩
      case rest =>
       obtain ⟨p, rfl, hp, HT, HF, rfl⟩ := hcut
       obtain ⟨bw, HBW⟩ : ∃ b : Bool, Hid (b = false ↔ ∃ hpo : p < out.length, out[p] = t) := by
        by_cases hold : ∃ hpo : p < out.length, out[p] = t
        · exact ⟨false, Lib.hid ⟨fun _ => hold, fun _ => rfl⟩⟩
        · exact ⟨true, Lib.hid ⟨fun h => (by cases h), fun h => absurd h hold⟩⟩
       go_upto_region 11 with (fail)
       go_cut [52] (fun u52 wx => u52 = .bool bw ∧ wq = wx)
       case first =>
        by_cases hpa : p = an
        · obtain rfl : bw = true := by
           cases bw with
           | true => rfl
           | false => obtain ⟨h1, _⟩ := HBW.out.1 rfl; have := HAN.out; omega
          clear HBW
          subst hpa
          go_wp2_with fail
          go_meet
          exact ⟨rfl, by first | trivial | rfl⟩
        · have hpn : p < an := by omega
          have hpi : (p : Int) < (an : Int) := by omega
          have hpe : ((p : Int) == (an : Int)) = false := by simp; omega
          have hpo : p < out.length := by have := HAN.out; omega
          obtain ⟨bb, ob, hab, py⟩ := tx_get (CellsAt.ownN HO.out) p hpo
          subst hab
          have HBY : Hid (bw = false ↔ out[p] = t) := Lib.hid ⟨fun h => (HBW.out.1 h).2, fun h => HBW.out.2 ⟨hpo, h⟩⟩
          obtain ⟨y, hy⟩ : ∃ y, out[p] = y := ⟨_, rfl⟩
          rw [hy] at py HBY
          clear hy HBW hpa
          by_cases he : y = t
          · obtain rfl : bw = false := HBY.out.2 he
            have hnc : (y.toList == t.toList) = true := by rw [Pm.eq_iff]; simpa using he
            have hnb : (y.toList != t.toList) = false := by simp [bne, hnc]
            clear he HBY
            go_wp2_with fail
            go_meet
            exact ⟨rfl, by first | trivial | rfl⟩
          · obtain rfl : bw = true := by
             cases bw with
             | true => rfl
             | false => exact absurd (HBY.out.1 rfl) he
            have hnc : (y.toList == t.toList) = false := by rw [Pm.eq_iff]; simpa using he
            have hnb : (y.toList != t.toList) = true := by simp [bne, hnc]
            clear he HBY
            go_wp2_with fail
            go_meet
            exact ⟨rfl, by first | trivial | rfl⟩
       case rest =>
       obtain ⟨rfl, rfl⟩ := hcut
       cases bw
       case false =>
        have SN2 : Hid (showG k (l.take (q + 1)) = out) := Lib.hid (by
         obtain ⟨hpo, he⟩ := HBW.out.1 rfl
         rw [SN.out, insU_old t out p hpo HT.out he])
        clear HBW SN
        go_wp2_with fail
        go_roundw
        case rel => exact ⟨q + 1, _, _, an, ac, rfl, by go_num, by omega, rfl, by rw [SN2.out]; exact HAN, by rw [SN2.out]; exact HO, HB⟩
        case measure => simp [intOf]; omega
       case true =>
        have SN2 : Hid (showG k (l.take (q + 1)) = out.take p ++ t :: out.drop p) := Lib.hid (by rw [SN.out, insU_new t out p (by have := HAN.out; omega) HT.out (fun hp' => ⟨HF.out hp', fun e => by have := HBW.out.2 ⟨hp', e⟩; cases this⟩)])
        clear HBW SN
        have hso : av = none ∨ ∃ g, av = some ⟨g, 0, none⟩ := by
         rcases HO.out.2 with ⟨e, _⟩ | ⟨g, _, _, e, _⟩
         · cases e; exact .inl rfl
         · cases e; exact .inr ⟨g, rfl⟩
        have hle : an ≤ ac := by
         rcases HO.out.2 with ⟨e, h0⟩ | ⟨g, _, _, e, _, _, h1, _⟩
         · cases e; omega
         · cases e; exact h1
        have HC6 := CellsAt.ownN HO.out
        have HTK : Hid (CellsAt wq av (txV (out.take p))) := Lib.hid (by have := HC6.take p; rwa [show (txV out).take p = txV (out.take p) by simp [txV]] at this)
        have HDK : Hid (CellsAt wq (subN av ac p 1) (txV (out.drop p))) := Lib.hid (by
         have := HC6.subN ac p 1 (fun e => by rw [show (txV out).length = out.length by simp [txV], ← HAN.out]; omega)
         rwa [show (txV out).drop (p * 1) = txV (out.drop p) by simp [txV]] at this)
        have hlt1 : (txV (out.take p)).length = p * 1 := by have := HAN.out; simp [txV]; omega
        have hlt2 : (txV (out.drop p)).length = (an - p) * 1 := by have := HAN.out; simp [txV]; omega
        have T1 := Lib.hid (fun w' => run_to (P := Tryz.prog) w' 63 9 Tryz.underlying63 1 (fun w => by kernel_rfl) av hso an ac p (p : Int) rfl (by omega))
        have T2 := Lib.hid (fun w' => run_from (P := Tryz.prog) w' 63 9 Tryz.underlying63 1 (fun w => by kernel_rfl) av an ac p (p : Int) rfl hp)
        clear HC6 hso
        generalize hsub : subN av ac p 1 = sb at *
        clear hsub
        have HC : Hid (Chain [wq] wq) := Lib.hid (Chain.one wq)
        go_upto_region 12 with (fail)
        refine wp_region_noPanic ?_
        refine wp_region_held_drew (S := fun w' => Below wq.heap.size wq w') (by kernel_rfl) (Below.refl _ _).drew (fun hS => ?_)
        refine wpAnyH_take (i := 0) (oi := ⟨some 53, _, _, _, _, _⟩) (v := ?_) rfl (by kernel_rfl) (by kernel_rfl) (by kernel_rfl) (fun _ _ _ h => h) (Or.inl ⟨by rfl, ?_⟩) hS ?_
        rotate_left 1
        · intro w' hB; have s1 := T1.out w'; have s2 := T2.out w'; (go_simp <;> with_reducible rfl)
        try simp only [Act.put, List.setIfInBounds_toArray, List.set_cons_zero, List.set_cons_succ]
        refine wpAnyH_take (i := 1) (oi := ⟨some 54, _, _, _, _, _⟩) (v := ?_) rfl (by kernel_rfl) (by kernel_rfl) (by kernel_rfl) (fun _ _ _ h => h) (Or.inl ⟨by rfl, ?_⟩) hS ?_
        rotate_left 1
        · intro w' hB; have s1 := T1.out w'; have s2 := T2.out w'; (go_simp <;> with_reducible rfl)
        try simp only [Act.put, List.setIfInBounds_toArray, List.set_cons_zero, List.set_cons_succ]
        refine wpAnyH_take (i := 2) (oi := ⟨some 55, _, _, _, _, _⟩) (v := ?_) rfl (by kernel_rfl) (by kernel_rfl) (by kernel_rfl) (fun _ _ _ h => h) (Or.inl ⟨by rfl, ?_⟩) hS ?_
        rotate_left 1
        · intro w' hB; have s1 := T1.out w'; have s2 := T2.out w'; (go_simp <;> with_reducible rfl)
        try simp only [Act.put, List.setIfInBounds_toArray, List.set_cons_zero, List.set_cons_succ]
        refine wpAnyH_take (i := 4) (oi := ⟨some 57, _, _, _, _, _⟩) (v := ?_) rfl (by kernel_rfl) (by kernel_rfl) (by kernel_rfl) (fun _ _ _ h => h) (Or.inl ⟨by rfl, ?_⟩) hS ?_
        rotate_left 1
        · intro w' hB; have s1 := T1.out w'; have s2 := T2.out w'; (go_simp <;> with_reducible rfl)
        try simp only [Act.put, List.setIfInBounds_toArray, List.set_cons_zero, List.set_cons_succ]
        refine wpAnyH_take (i := 7) (oi := ⟨some 60, _, _, _, _, _⟩) (v := ?_) rfl (by kernel_rfl) (by kernel_rfl) (by kernel_rfl) (fun _ _ _ h => h) (Or.inl ⟨by rfl, ?_⟩) hS ?_
        rotate_left 1
        · intro w' hB; have s1 := T1.out w'; have s2 := T2.out w'; (go_simp <;> with_reducible rfl)
        try simp only [Act.put, List.setIfInBounds_toArray, List.set_cons_zero, List.set_cons_succ]
        refine wpAnyH_take (i := 8) (oi := ⟨some 61, _, _, _, _, _⟩) (v := ?_) rfl (by kernel_rfl) (by kernel_rfl) (by kernel_rfl) (fun _ _ _ h => h) (Or.inl ⟨by rfl, ?_⟩) hS ?_
        rotate_left 1
        · intro w' hB; have s1 := T1.out w'; have s2 := T2.out w'; (go_simp <;> with_reducible rfl)
        try simp only [Act.put, List.setIfInBounds_toArray, List.set_cons_zero, List.set_cons_succ]
        refine wpAnyH_take (i := 9) (oi := ⟨some 62, _, _, _, _, _⟩) (v := ?_) rfl (by kernel_rfl) (by kernel_rfl) (by kernel_rfl) (fun _ _ _ h => h) (Or.inl ⟨by rfl, ?_⟩) hS ?_
        rotate_left 1
        · intro w' hB; have s1 := T1.out w'; have s2 := T2.out w'; (go_simp <;> with_reducible rfl)
        try simp only [Act.put, List.setIfInBounds_toArray, List.set_cons_zero, List.set_cons_succ]
        refine wpAnyH_ready (rs := [3, 5]) (by kernel_rfl) (by simp) (AllReadyH.cons (o := ⟨some 56, _, _, _, _, _⟩) rfl (fun K hK => ?way2) (AllReadyH.cons (o := ⟨some 58, _, _, _, _, _⟩) rfl (fun K hK => ?way1) AllReadyH.nil))
        case' way2 =>
         refine step_app rfl _ _ _ _ rfl wq.heap.size 9 _ 1 16 ST.out (.slice none 0 0) 0 [] rfl ⟨rfl, Or.inl ⟨rfl, rfl⟩⟩ _ p (txV (out.take p)) rfl ((HTK.out.below hS rfl).srcN hlt1 (txV_oneE _) Tryz.underlying63 ac (by decide)) (by unfold maxLen; omega) (by omega) hS.size ?_
         intro v3 w3 hown hgr hb hor
         refine hK.out _ _ (hS.trans hb) (fun _ => ?_)
         clear hK K
         replace hS := hS.trans hb
         have H3 : Hid (World.ownsRow _ wq.heap.size 9 1 v3 p (txV (out.take p))) := Lib.hid (by simpa using hown)
         (try (replace H8 := Lib.hid (H8.out.below (grown_none hgr) rfl)))
         clear hb hgr hor
         try simp only [Act.put, List.setIfInBounds_toArray, List.set_cons_zero, List.set_cons_succ]
         refine wpAnyH_ready (rs := [5]) (by kernel_rfl) (by simp) (AllReadyH.cons (o := ⟨some 58, _, _, _, _, _⟩) rfl (fun K hK => ?_) AllReadyH.nil)
         go_simp
         refine hK.out _ _ (hS.alloc hS.size _) (fun _ => ?_)
         clear hK K
         refine wpAnyH_madeK hS hS.size ?_
         have hS0 := hS
         clear hS
         rintro w8 hw hS
         (try (replace H3 := Lib.hid (show World.ownsRow w8 wq.heap.size 9 1 v3 p (txV (out.take p)) from by rw [hw]; exact H3.out.alloc _)))
         have H8 := Lib.hid (cellsAt_made (vs := [.string t]) hw)
         clear hw hS0
         try simp only [Act.put, List.setIfInBounds_toArray, List.set_cons_zero, List.set_cons_succ]
         refine wpAnyH_ready (rs := [6]) (by kernel_rfl) (by simp) (AllReadyH.cons (o := ⟨some 59, _, _, _, _, _⟩) rfl (fun K hK => ?_) AllReadyH.nil)
         refine step_app rfl _ _ _ _ rfl wq.heap.size 9 _ 1 16 ST.out v3 p (txV (out.take p)) rfl H3.out _ 1 [.string t] rfl (H8.out.srcN rfl (fun u hu => by simp at hu; subst hu; rfl) Tryz.underlying63 1 (by decide)) (by unfold maxLen; omega) (by omega) hS.size ?_
         intro v9 w9 hown hgr hb hor
         refine hK.out _ _ (hS.trans hb) (fun _ => ?_)
         clear hK K
         replace hS := hS.trans hb
         have H9 := Lib.hid hown
         clear hb hgr hor
         try simp only [Act.put, List.setIfInBounds_toArray, List.set_cons_zero, List.set_cons_succ]
         refine wpAnyH_ready (rs := [10]) (by kernel_rfl) (by simp) (AllReadyH.cons (o := ⟨some 63, _, _, _, _, _⟩) rfl (fun K hK => ?_) AllReadyH.nil)
         refine step_app rfl _ _ _ _ rfl wq.heap.size 9 _ 1 16 ST.out v9 (p + 1) (txV (out.take p) ++ [.string t]) rfl H9.out _ (an - p) (txV (out.drop p)) rfl ((HDK.out.below hS rfl).srcN hlt2 (txV_oneE _) Tryz.underlying63 (ac - p) (by decide)) (by unfold maxLen; omega) (by omega) hS.size ?_
         intro v13 w13 hown hgr hb hor
         refine hK.out _ _ (hS.trans hb) (fun _ => ?_)
         clear hK K
         replace hS := hS.trans hb
         have H13 := hown
         obtain ⟨a13, n13, e13, _⟩ := own_slice H13
         subst e13
         have O13 := Lib.hid H13
         clear H13
         clear hb hgr hor
         try simp only [Act.put, List.setIfInBounds_toArray, List.set_cons_zero, List.set_cons_succ]
         refine wpAnyH_take (i := 11) (oi := ⟨some 3, _, _, _, _, _⟩) (v := ?_) rfl (by kernel_rfl) (by kernel_rfl) (by kernel_rfl) (fun _ _ _ h => h) (Or.inl ⟨by rfl, ?_⟩) hS ?_
         rotate_left 1
         · intro w' hB; have s1 := T1.out w'; have s2 := T2.out w'; (go_simp <;> with_reducible rfl)
         try simp only [Act.put, List.setIfInBounds_toArray, List.set_cons_zero, List.set_cons_succ]
         refine wpAnyH_done (by kernel_rfl) (NoPanic.normal ?_) _
        case' way1 =>
         go_simp
         refine hK.out _ _ (hS.alloc hS.size _) (fun _ => ?_)
         clear hK K
         refine wpAnyH_madeK hS hS.size ?_
         have hS0 := hS
         clear hS
         rintro w8 hw hS
         (try (replace H3 := Lib.hid (show World.ownsRow w8 wq.heap.size 9 1 v3 p (txV (out.take p)) from by rw [hw]; exact H3.out.alloc _)))
         have H8 := Lib.hid (cellsAt_made (vs := [.string t]) hw)
         clear hw hS0
         try simp only [Act.put, List.setIfInBounds_toArray, List.set_cons_zero, List.set_cons_succ]
         refine wpAnyH_ready (rs := [3]) (by kernel_rfl) (by simp) (AllReadyH.cons (o := ⟨some 56, _, _, _, _, _⟩) rfl (fun K hK => ?_) AllReadyH.nil)
         refine step_app rfl _ _ _ _ rfl wq.heap.size 9 _ 1 16 ST.out (.slice none 0 0) 0 [] rfl ⟨rfl, Or.inl ⟨rfl, rfl⟩⟩ _ p (txV (out.take p)) rfl ((HTK.out.below hS rfl).srcN hlt1 (txV_oneE _) Tryz.underlying63 ac (by decide)) (by unfold maxLen; omega) (by omega) hS.size ?_
         intro v3 w3 hown hgr hb hor
         refine hK.out _ _ (hS.trans hb) (fun _ => ?_)
         clear hK K
         replace hS := hS.trans hb
         have H3 : Hid (World.ownsRow _ wq.heap.size 9 1 v3 p (txV (out.take p))) := Lib.hid (by simpa using hown)
         (try (replace H8 := Lib.hid (H8.out.below (grown_none hgr) rfl)))
         clear hb hgr hor
         try simp only [Act.put, List.setIfInBounds_toArray, List.set_cons_zero, List.set_cons_succ]
         refine wpAnyH_ready (rs := [6]) (by kernel_rfl) (by simp) (AllReadyH.cons (o := ⟨some 59, _, _, _, _, _⟩) rfl (fun K hK => ?_) AllReadyH.nil)
         refine step_app rfl _ _ _ _ rfl wq.heap.size 9 _ 1 16 ST.out v3 p (txV (out.take p)) rfl H3.out _ 1 [.string t] rfl (H8.out.srcN rfl (fun u hu => by simp at hu; subst hu; rfl) Tryz.underlying63 1 (by decide)) (by unfold maxLen; omega) (by omega) hS.size ?_
         intro v9 w9 hown hgr hb hor
         refine hK.out _ _ (hS.trans hb) (fun _ => ?_)
         clear hK K
         replace hS := hS.trans hb
         have H9 := Lib.hid hown
         clear hb hgr hor
         try simp only [Act.put, List.setIfInBounds_toArray, List.set_cons_zero, List.set_cons_succ]
         refine wpAnyH_ready (rs := [10]) (by kernel_rfl) (by simp) (AllReadyH.cons (o := ⟨some 63, _, _, _, _, _⟩) rfl (fun K hK => ?_) AllReadyH.nil)
         refine step_app rfl _ _ _ _ rfl wq.heap.size 9 _ 1 16 ST.out v9 (p + 1) (txV (out.take p) ++ [.string t]) rfl H9.out _ (an - p) (txV (out.drop p)) rfl ((HDK.out.below hS rfl).srcN hlt2 (txV_oneE _) Tryz.underlying63 (ac - p) (by decide)) (by unfold maxLen; omega) (by omega) hS.size ?_
         intro v13 w13 hown hgr hb hor
         refine hK.out _ _ (hS.trans hb) (fun _ => ?_)
         clear hK K
         replace hS := hS.trans hb
         have H13 := hown
         obtain ⟨a13, n13, e13, _⟩ := own_slice H13
         subst e13
         have O13 := Lib.hid H13
         clear H13
         clear hb hgr hor
         try simp only [Act.put, List.setIfInBounds_toArray, List.set_cons_zero, List.set_cons_succ]
         refine wpAnyH_take (i := 11) (oi := ⟨some 3, _, _, _, _, _⟩) (v := ?_) rfl (by kernel_rfl) (by kernel_rfl) (by kernel_rfl) (fun _ _ _ h => h) (Or.inl ⟨by rfl, ?_⟩) hS ?_
         rotate_left 1
         · intro w' hB; have s1 := T1.out w'; have s2 := T2.out w'; (go_simp <;> with_reducible rfl)
         try simp only [Act.put, List.setIfInBounds_toArray, List.set_cons_zero, List.set_cons_succ]
         refine wpAnyH_done (by kernel_rfl) (NoPanic.normal ?_) _
        all_goals
         have HBn := Lib.hid (HB.out.trans (hS.mono HB.out.size))
         have HOn : Hid (w13.ownsRow w1.heap.size 9 1 (.slice a13 (an + 1) n13) (an + 1) (txV (out.take p ++ t :: out.drop p))) := Lib.hid (by
          have h13 := own_mono O13.out HB.out.size
          rw [show txV (out.take p) ++ [.string t] ++ txV (out.drop p) = txV (out.take p ++ t :: out.drop p) by simp [txV]] at h13
          rwa [show p + 1 + (an - p) = an + 1 by omega] at h13)
         have e17 : p + 1 + (an - p) = an + 1 := by omega
         clear hS O13 H9 H3 H8
         try rw [e17]
         clear e17
         go_wp2_with fail
         go_roundw
        all_goals
         first
          | exact ⟨q + 1, _, a13, an + 1, n13, rfl, by go_num, by omega, rfl, Lib.hid (by rw [SN2.out, List.length_append, List.length_cons, List.length_take, List.length_drop]; have := HAN.out; omega), by rw [SN2.out]; exact HOn, HBn⟩
          | (simp [intOf]; omega)
    · have hkb : (k != 2) = true := by simp [hk]
      have SN := Lib.hid (S1.out hk)
      have BB := Lib.hid HB.out.size
      clear hk S1 S2
      go_wp2_with (at_builtin; go_must (refine wpList_app rfl _ _ 63 63 rfl w1.heap.size 9 _ 1 16 ST.out (.slice av an ac) an (txV out) rfl (HO.out.alloc _) _ 1 [.string t] rfl ((CellsAt.new wq 9 (0, 0) [.string t]).srcN rfl (fun u hu => by simp at hu; subst hu; rfl) Tryz.underlying63 1 (by decide)) (by omega) (by omega) (by have := BB.out; simp; omega) ?_); go_must (intro v10 w10 hown hgr10 hbel hor); go_must (obtain ⟨a10, c10, rfl, _⟩ := own_slice hown); have OW10 := Lib.hid hown; have B10 : Hid (Below w1.heap.size w1 w10) := Lib.hid (HB.out.trans (((below_new wq (.cells #[.string t] 9)).mono HB.out.size).trans hbel)); clear hown hgr10 hbel hor k0 k2 p5)
      go_roundw
      case rel => exact ⟨q + 1, _, a10, an + 1, c10, rfl, by go_num, by omega, rfl, Lib.hid (by rw [SN.out, List.length_append, ← HAN.out]; rfl), Lib.hid (by rw [SN.out, show txV (out ++ [t]) = txV out ++ [.string t] by simp [txV]]; exact OW10.out), B10⟩
      case measure => simp [intOf]; omega
  · obtain rfl : q = n := by omega
    have hqi : ¬ (q : Int) < (q : Int) := by omega
    go_wp2_with fail
    go_ret
    have e : l.take q = l := List.take_of_length_le (by rw [HN.out]; exact Nat.le_refl _)
    have h1 := HO.out
    have h2 := HAN.out
    rw [e] at h1 h2
    exact ⟨av, an, ⟨ac, rfl⟩, CellsAt.ownN h1, h2, BW.out.trans (HB.out.mono BW.out.size)⟩
end Go.Proofs.YtjlliohjeiclaaaGreatDoor
namespace Go.Proofs.YtjlliohjeiclaaaGreatDoor
open St Pm Ku
namespace Kn
def tX : ByteArray := ⟨#[120]⟩
def tY : ByteArray := ⟨#[121]⟩
def tK : ByteArray := ⟨#[107]⟩
def sA (k : Int) : Sv := ⟨k, 0, ⟨#[97]⟩, 1, 0⟩
theorem fc1 : checkK [] 2 tK 2 0 tX = 0 := by decide
theorem fc2 : checkK [] 2 tK 2 0 tY = 0 := by decide
theorem fc3 : checkK [] 2 tK 3 0 tX = 0 := by decide
theorem fc4 : checkK [] 2 tK 2 0 ⟨#[]⟩ = 0 := by decide
theorem fc5 : checkK [] 4 tK 6 0 tX = 2 := by decide
theorem fc6 : checkK [] 2 tK 1 0 ⟨#[]⟩ = 7 := by decide
theorem fa1 : applyG 2 0 [] (sA 1) 0 2 2 0 tX = (2, 0, [(sA 1, tX)], 0) := by decide
theorem fv1 : valG 2 0 [(sA 1, tX)] = true := by decide
theorem fv2 : valG 2 0 [(sA 1, tX), (sA 2, tY)] = true := by decide
theorem fv3 : valG 2 0 [(sA 2, tY)] = true := by decide
theorem fa2 : applyG 2 0 [(sA 1, tX)] (sA 2) 0 2 2 0 tY = (2, 0, [(sA 1, tX), (sA 2, tY)], 0) := by decide
theorem fa3 : applyG 2 0 [(sA 1, tX), (sA 2, tY)] (sA 3) 0 2 3 0 tX = (2, 0, [(sA 2, tY)], 0) := by decide
theorem fa4 : applyG 2 0 [(sA 1, tX), (sA 2, tY)] (sA 2) 0 2 2 0 ⟨#[]⟩ = (0, 0, [], 2) := by
 unfold applyG
 rw [if_pos (.inr (.inr (.inr (by unfold lastGe; show decide (0 ≤ svC (sA 2) (sA 2)) = true; rw [svC_refl]; rfl))))]
theorem fa5 : applyG 2 0 [(sA 1, tX), (sA 1, tX)] (sA 3) 0 2 2 0 ⟨#[]⟩ = (0, 0, [], 2) := by
 unfold applyG
 rw [if_pos (.inr (.inl (by
  cases h : valG 2 0 [(sA 1, tX), (sA 1, tX)] with
  | false => rfl
  | true =>
   have h2 := (val_right h).2
   have h3 := (List.pairwise_cons.1 h2).1 (sA 1, tX) (by simp)
   exact absurd h3 (sv_irrefl _))))]
theorem fa6 : applyG 2 0 [(sA 1, tX), (sA 2, tY)] (sA 3) 2 4 6 0 tX = (0, 0, [], 2) := by
 unfold applyG
 rw [if_pos (.inl rfl)]
theorem ft : threeO 2 0 [(sA 1, tX)] 2 0 [(sA 2, tY)] 2 0 [(sA 1, tX), (sA 2, tY)] = (2, 0, [(sA 2, tY)], 0) := by
 unfold threeO
 rw [fv1, fv2, fv3, if_neg (by simp)]
 have h := three_uniq (val_right fv1) (val_right fv3) (val_right fv2) (r := [(sA 2, tY)]) (by rw [show pickG [(sA 1, tX)] [(sA 2, tY)] [(sA 1, tX), (sA 2, tY)] = [(sA 2, tY)] by decide]) (List.pairwise_singleton _ _)
 rw [← h]
 rfl
theorem fs : showG 2 [(sA 1, tX), (sA 2, tY)] = [tX, tY] := by
 unfold showG
 rw [if_pos rfl]
 refine srtT_ext _ _ (setT_srt _) ?_ fun x => ?_
 · refine List.pairwise_cons.2 ⟨fun y hy => ?_, List.pairwise_singleton _ _⟩
   rw [List.mem_singleton.1 hy, klt_iff]
   decide
 · rw [setT_mem]
   rfl
theorem fk : kindG ⟨#[113, 117, 101, 117, 101]⟩ = 4 := by decide
theorem fw : wordG 2 = ⟨#[115, 101, 116]⟩ := by decide
theorem fd : doG 6 = ⟨#[112, 111, 112]⟩ := by decide
end Kn
end Go.Proofs.YtjlliohjeiclaaaGreatDoor
