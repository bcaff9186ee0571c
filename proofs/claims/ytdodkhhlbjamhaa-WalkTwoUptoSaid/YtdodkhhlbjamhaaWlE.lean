
/- Walks of law 08: keys. -/
import Derived.Test.YtdodkhhlbjamhaaWlD
import Derived.Test.YtdodkhhlbjamhaaCellsB
import Derived.Test.YtdodkhhlbjamhaaPmMI
namespace Go.Proofs.Ytdodkhhlbjamhaa
open Go.RowKit Pm
def ptrV (ts : List (Tr Int)) : List Value := ts.map fun t => .pointer (pa t)
def keysL (ts : List (Tr Int)) : List ByteArray := (ts.map fun t => (items t).map (·.1)).flatten
theorem infoStr : (Try.prog.info? 9).map (fun i => (i.zero, i.size, i.bytes)) = some (some (.string ⟨#[]⟩), 1, 16) := by kernel_rfl
theorem keysL_snoc (ts : List (Tr Int)) (t : Tr Int) : keysL (ts ++ [t]) = keysL ts ++ (items t).map (·.1) := by simp [keysL]
theorem keysL_len (ts : List (Tr Int)) (B : Nat) (h : ∀ t ∈ ts, sz t ≤ B) : (keysL ts).length ≤ ts.length * B := by
  induction ts with
  | nil => simp [keysL]
  | cons t ts ih =>
    have h1 := ih fun u hu => h u (List.mem_cons_of_mem _ hu)
    have h2 := h t List.mem_cons_self
    have e : keysL (t :: ts) = (items t).map (·.1) ++ keysL ts := by simp [keysL]
    rw [e, List.length_append, List.length_map, sz_items, List.length_cons, Nat.add_mul, Nat.one_mul]
    omega
set_option maxRecDepth 100000 in
set_option maxHeartbeats 4000000 in
theorem wl_keys (ts : List (Tr Int)) (a : Option Addr) (cap : Nat) (w : World) (hc : CellsAt w a (ptrV ts)) (ht : ∀ t ∈ ts, AtI w t ∧ sz t ≤ 80) (hn : ts.length ≤ 3) :
    Calls Try.prog 14 #[.slice a ts.length cap] w fun e w' => ∃ v, e = .returned v ∧ w'.ownsRow w.heap.size 9 1 v (keysL ts).length (strV (keysL ts)) ∧ Below w.heap.size w w' := by
  have HC := Lib.hid hc
  have HT := Lib.hid ht
  clear hc ht
  obtain ⟨n, hnn⟩ : ∃ n, ts.length = n := ⟨_, rfl⟩
  rw [hnn] at hn ⊢
  have HN := Lib.hid hnn
  clear hnn
  have ET := Lib.hid (ElemT.mk Try.underlying22 infoStr rfl)
  go_enter Try.func14, Try.ntmps14
  go_wp2_with fail
  go_loopw [3, 4] (fun v u wr => ∃ (i : Nat), u = .int .i64 (i : Int) ∧ i ≤ n ∧ Hid (wr.ownsRow w.heap.size 9 1 v (keysL (ts.take i)).length (strV (keysL (ts.take i)))) ∧ Hid (Below w.heap.size w wr)) (fun _ u _ => n - (intOf u).toNat)
  case atStart => exact ⟨0, rfl, Nat.zero_le _, Lib.hid (World.ownsRow_nil _ _ _ _), Lib.hid (Below.refl _ _)⟩
  case round =>
    obtain ⟨i, rfl, hi, HO, HB⟩ := hrel
    by_cases hlt : i < n
    · have hli : (i : Int) < (n : Int) := by omega
      have hil : i < ts.length := by rw [HN.out]; exact hlt
      obtain ⟨t, ht⟩ : ∃ t, ts[i]'hil = t := ⟨_, rfl⟩
      have hts : ts[i]? = some t := by rw [List.getElem?_eq_getElem hil, ht]
      obtain ⟨bk, ok, hak, hck⟩ := (HC.out.below HB.out rfl).get i (.pointer (pa t)) (by simp [ptrV, hts])
      have hat := HT.out t (List.mem_of_getElem? hts)
      subst hak
      have HCK : Hid (∀ W, Below w.heap.size w W → W.cell? ⟨bk, ok + i, none⟩ = some (.pointer (pa t))) := Lib.hid (fun W hW => by
        obtain ⟨b', o', h1, h2⟩ := (HC.out.below hW rfl).get i (.pointer (pa t)) (by simp [ptrV, hts])
        cases h1
        exact h2)
      have HAT := Lib.hid hat
      have HTS := Lib.hid hts
      obtain ⟨a0, c0, rfl⟩ := own_shape1 HO.out
      clear hts ht hck hat
      go_wp2_with fail
      obtain ⟨L, hL⟩ : ∃ L, keysL (ts.take i) = L := ⟨_, rfl⟩
      rw [hL] at HO
      rw [hL]
      have HL := Lib.hid hL
      have hLl : L.length ≤ 240 := by
        rw [← hL]
        have h1 := keysL_len (ts.take i) 80 (fun t h => (HT.out t (List.mem_of_mem_take h)).2)
        have h2 : (ts.take i).length ≤ 3 := by simp; omega
        have h3 : (ts.take i).length * 80 ≤ 3 * 80 := Nat.mul_le_mul_right _ h2
        omega
      clear hL
      obtain ⟨ks, hks⟩ : ∃ ks, (items t).map (·.1) = ks := ⟨_, rfl⟩
      have hkl : ks.length = sz t := by rw [← hks, List.length_map, sz_items]
      have HKS := Lib.hid hks
      have hzt := HAT.out.2
      clear hks
      go_loopw [3, 5] (fun v u wr => ∃ (k : Nat), u = .int .i64 (k : Int) ∧ k ≤ sz t ∧ Hid (wr.ownsRow w.heap.size 9 1 v (L ++ ks.take k).length (strV (L ++ ks.take k))) ∧ Hid (Below w.heap.size w wr)) (fun _ u _ => sz t - (intOf u).toNat)
      case atStart => exact ⟨0, rfl, Nat.zero_le _, Lib.hid (by simpa using HO.out), HB⟩
      case round =>
        clear HO HB
        obtain ⟨k, rfl, hk, HO, HB⟩ := hrel
        have hlk : (L ++ ks.take k).length ≤ 400 := by simp; omega
        obtain ⟨M, hM⟩ : ∃ M, L ++ ks.take k = M := ⟨_, rfl⟩
        have HM := Lib.hid hM
        rw [hM] at HO hlk
        obtain ⟨nM, hnM⟩ : ∃ nM, M.length = nM := ⟨_, rfl⟩
        have HNM := Lib.hid hnM
        rw [hnM] at HO hlk
        clear hM hnM
        obtain ⟨a0, c0, rfl⟩ := own_shape1 HO.out
        have c1 := HCK.out wr HB.out
        go_wp2_with fail
        refine (pm_MLenI t wr (HAT.out.1.below HB.out rfl)).mono ?_
        rintro e w2 ⟨rfl, hb⟩
        have B2 : Hid (Below w.heap.size w w2) := Lib.hid (HB.out.trans (hb.mono HB.out.size))
        have O2 := Lib.hid (own_later HO.out hb (Nat.le_refl _))
        have c1 := HCK.out w2 B2.out
        clear hb HB HO
        by_cases hlt2 : k < sz t
        · have hki : (k : Int) < (sz t : Int) := by omega
          go_wp2_with fail
          refine (pm_MAtI t (k : Int) w2 (HAT.out.1.below B2.out rfl) (by omega) (by omega) (by omega)).mono ?_
          rintro e w3 ⟨rfl, hb⟩
          obtain ⟨q, hq⟩ : ∃ q, keyOr (atOI t (k : Int)) = q := ⟨_, rfl⟩
          have hqk : ks[k]? = some q := by
            obtain ⟨b1, l1, k1, v1, r1, g1, g2⟩ := atI_items t k hlt2
            rw [← HKS.out, List.getElem?_map, g2, ← hq]
            unfold atOI
            rw [if_neg (by omega), g1]
            rfl
          have HQ := Lib.hid hqk
          rw [hq]
          clear hq hqk
          have B3 : Hid (Below w.heap.size w w3) := Lib.hid (B2.out.trans (hb.mono B2.out.size))
          have O3 := Lib.hid (own_later O2.out hb (Nat.le_refl _))
          clear hb O2 B2
          go_wp2_with (at_builtin; refine wpList_app rfl _ _ 22 22 rfl w.heap.size 9 (.string ⟨#[]⟩) 1 16 ET.out (.slice a0 nM c0) nM (strV M) rfl (own_later O3.out (below_new w3 _) (Nat.le_refl _)) _ 1 [.string q] rfl (CellsAt.one w3 9 (.string q) rfl Try.underlying22) (by omega) (by omega) (by have := B3.out.size; simp; omega) ?_; intro v3 w4 hown _ hb _; have O4 := Lib.hid hown; have B4 : Hid (Below w.heap.size w w4) := Lib.hid ((B3.out.trans ((below_new w3 _).mono B3.out.size)).trans hb); clear hown hb)
          refine ⟨⟨k + 1, by simp, by omega, Lib.hid ?_, B4⟩, ?_⟩
          · have e1 : L ++ ks.take (k + 1) = M ++ [q] := by
              rw [← HM.out, List.append_assoc]
              congr 1
              obtain ⟨h1, h2⟩ := List.getElem?_eq_some_iff.1 HQ.out
              rw [List.take_succ_eq_append_getElem h1, h2]
            rw [e1, show strV (M ++ [q]) = strV M ++ [.string q] by simp [strV], List.length_append, HNM.out]
            exact O4.out
          · have q1 : (intOf (Value.int .i64 ((k : Int) + 1))).toNat = k + 1 := by simp [intOf]
            have q2 : (intOf (Value.int .i64 (k : Int))).toNat = k := by simp [intOf]
            rw [q1, q2]; omega
        · have hki : ¬ (k : Int) < (sz t : Int) := by omega
          have HKE : Hid (ks.take k = ks) := Lib.hid (List.take_of_length_le (by omega))
          go_wp2_with fail
          refine ⟨⟨i + 1, by simp, by omega, Lib.hid ?_, B2⟩, ?_⟩
          · have e1 : keysL (ts.take (i + 1)) = M := by
              obtain ⟨h1, h2⟩ := List.getElem?_eq_some_iff.1 HTS.out
              rw [List.take_succ_eq_append_getElem h1, h2, keysL_snoc, HL.out, HKS.out, ← HM.out, HKE.out]
            rw [e1, HNM.out]
            exact O2.out
          · have q1 : (intOf (Value.int .i64 ((i : Int) + 1))).toNat = i + 1 := by simp [intOf]
            have q2 : (intOf (Value.int .i64 (i : Int))).toNat = i := by simp [intOf]
            rw [q1, q2]; omega
    · have hli : ¬ (i : Int) < (n : Int) := by omega
      have HIE : Hid (ts.take i = ts) := Lib.hid (List.take_of_length_le (by rw [HN.out]; omega))
      go_wp2_with fail
      go_ret
      refine ⟨_, rfl, ?_, HB.out⟩
      have := HO.out
      rw [HIE.out] at this
      exact this
end Go.Proofs.Ytdodkhhlbjamhaa

