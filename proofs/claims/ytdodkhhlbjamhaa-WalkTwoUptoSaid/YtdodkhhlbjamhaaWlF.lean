
/- Walks of law 08: known; plain: what the elements' rule gives where each key has its own value. -/
import Derived.Test.YtdodkhhlbjamhaaWlE
import Derived.Test.YtdodkhhlbjamhaaPmNI
import Derived.Test.YtdodkhhlbjamhaaPmSI
namespace Go.Proofs.Ytdodkhhlbjamhaa
open Go.RowKit Pm
theorem lk_ext {α : Type} {z : α} : ∀ {l l' : List (ByteArray × α)}, Srt l → Srt l' → (∀ k, lk z l k = lk z l' k) → l = l'
  | [], [], _, _, _ => rfl
  | [], y :: l', _, _, h => by have := h y.1; simp [lk] at this
  | x :: l, [], _, _, h => by have := h x.1; simp [lk] at this
  | x :: l, y :: l', h1, h2, h => by
    obtain ⟨s1, s2⟩ := srt_cons.1 h1
    obtain ⟨s3, s4⟩ := srt_cons.1 h2
    have hx := h x.1
    have hy := h y.1
    have key : x.1 = y.1 := by
      cases a1 : klt x.1 y.1 with
      | true =>
        have : lk z (y :: l') x.1 = (z, false) := lk_none fun u hu => by
          rcases List.mem_cons.1 hu with rfl | hu
          · exact Ne.symm (klt_ne a1)
          · exact Ne.symm (klt_ne (klt_trans a1 (s3 u hu)))
        rw [this] at hx
        simp [lk] at hx
      | false =>
        cases a2 : klt y.1 x.1 with
        | true =>
          have : lk z (x :: l) y.1 = (z, false) := lk_none fun u hu => by
            rcases List.mem_cons.1 hu with rfl | hu
            · exact Ne.symm (klt_ne a2)
            · exact Ne.symm (klt_ne (klt_trans a2 (s1 u hu)))
          rw [this] at hy
          simp [lk] at hy
        | false => exact klt_tri a1 a2
    have hv : x.2 = y.2 := by
      simp only [lk] at hx
      rw [if_pos trivial, if_pos key.symm] at hx
      exact (Prod.mk.inj hx).1
    have e : x = y := Prod.ext key hv
    subst e
    congr 1
    refine lk_ext (z := z) s2 s4 fun k => ?_
    have := h k
    simp only [lk] at this
    by_cases hk : x.1 = k
    · subst hk
      rw [lk_none (fun u hu => Ne.symm (klt_ne (s1 u hu))), lk_none (fun u hu => Ne.symm (klt_ne (s3 u hu)))]
    · rw [if_neg hk, if_neg hk] at this
      exact this
theorem lk_val {f : ByteArray → Int} {l : List (ByteArray × Int)} (h : ∀ x ∈ l, x.2 = f x.1) (k : ByteArray) : lk 0 l k = (if (lk 0 l k).2 = true then f k else 0, (lk 0 l k).2) := by
  induction l with
  | nil => rfl
  | cons x l ih =>
    by_cases hk : x.1 = k
    · have e : lk 0 (x :: l) k = (f k, true) := by simp only [lk]; rw [if_pos hk, h x List.mem_cons_self, hk]
      rw [e]; rfl
    · have e : lk 0 (x :: l) k = lk 0 l k := by simp only [lk]; rw [if_neg hk]
      rw [e]; exact ih fun y hy => h y (List.mem_cons_of_mem _ hy)
/-- What goes in, of three trees as they are. -/
theorem wlk_in {s a o : Tr Int} (gs : Bal s ∧ Srt (items s)) (ga : Bal a ∧ Srt (items a)) (go : Bal o ∧ Srt (items o)) : WlkI 0 (lk 0 (items s)) (lk 0 (items a)) (lk 0 (items o)) (fun _ => True) s a o :=
  ⟨gs.2, ga.2, go.2, gs.1, ga.1, go.1, fun _ _ => rfl, fun _ _ => rfl, fun _ _ => rfl, fun _ _ => trivial, fun _ _ => trivial, fun _ _ => trivial⟩
/-- Where each key has its own value, all is as the rule says. -/
theorem el_all {f : ByteArray → Int} {s a o m : Tr Int} {asked : List ByteArray} (hs : ∀ x ∈ items s, x.2 = f x.1) (ha : ∀ x ∈ items a, x.2 = f x.1) (ho : ∀ x ∈ items o, x.2 = f x.1)
    (h : WlkO 0 (fun k => keepFI (lk 0 (items s) k) (lk 0 (items a) k) (lk 0 (items o) k)) (lk 0 (items s)) (lk 0 (items a)) (lk 0 (items o)) (fun _ => True) s a o m asked) (k : ByteArray) :
    lk 0 (items m) k = nrm 0 (keepFI (lk 0 (items s) k) (lk 0 (items a) k) (lk 0 (items o) k)) := by
  have e1 := lk_val hs k
  have e2 := lk_val ha k
  have e3 := lk_val ho k
  refine h.all k trivial (fun hh => ?_) (fun hh => .inl ?_)
  · exact (keep_lkI (nrm_lk (z := 0)) (nrm_lk (z := 0)) (nrm_lk (z := 0))).1 hh
  · generalize lk 0 (items s) k = p at *
    generalize lk 0 (items a) k = q at *
    generalize lk 0 (items o) k = r at *
    obtain ⟨p1, p2⟩ := p
    obtain ⟨q1, q2⟩ := q
    obtain ⟨r1, r2⟩ := r
    cases p2 <;> cases q2 <;> cases r2 <;> simp_all [keepFI, nrm]
theorem rule_nilnil (W : World) : (binOp .eql 34 .nilFunc .nilFunc).run Try.prog W = .ok (.bool true) W := by
  have hp := Try.underlying34
  have h : ∀ d : Nat, (Op.equalIn (d + 1) 34 .nilFunc .nilFunc).run Try.prog W = .ok true W := fun d => by simp [Op.equalIn, run_underlying hp]
  simp only [binOp]
  simp [Op.equal, Op.maxDepth, h 9999]
set_option maxRecDepth 100000 in
set_option maxHeartbeats 2000000 in
theorem wk_RunNil (s a o : Tr Int) (w : World) : Calls Try.prog 11 #[.agg #[.pointer (pa s)], .agg #[.pointer (pa a)], .agg #[.pointer (pa o)], .nilFunc] w fun e w' =>
    e = .returned (.tuple #[.agg #[.pointer none], .agg #[.int .i64 0, .int .i64 0, .int .i64 0], .int .i64 1]) ∧ Below w.heap.size w w' := by
  have hnn := rule_nilnil
  refine (callsIn_wide (n := 6)).1 ?_
  refine callsIn_of_wp_marks Try.func11 rfl trivial ?_ rfl
  simp only [Try.ntmps11, List.size_toArray, List.length_cons, List.length_nil, Nat.reduceAdd, Nat.reduceSub, Array.replicate_succ, Array.replicate_zero, List.push_toArray, List.append_toArray, List.nil_append, List.cons_append]
  refine wpIn_wide.2 ?_
  go_wp2_with fail
  have hb : Below w.heap.size w (allocs w [.cells #[.pointer (pa s)] 29, .cells #[.pointer (pa a)] 29, .cells #[.pointer (pa o)] 29, .cells #[.nilFunc] 34, .cells #[.pointer none] 29, .cells #[.int .i64 0, .int .i64 0, .int .i64 0] 36]) := allocs_below _ _
  exact ⟨.tuple #[.agg #[.pointer none], .agg #[.int .i64 0, .int .i64 0, .int .i64 0], .int .i64 1], by simp [results, Try.results11, go_sem], rfl, hb⟩
theorem Facts.cell {H : List (Nat × Obj)} {W : World} (h : Facts H W) {b : Nat} {v : Value} {t : TypeId} (hm : (b, Obj.cells #[v] t (0, 0)) ∈ H) : W.cell? ⟨b, 0, none⟩ = some v := cell_of_one (h _ hm)
def kA : ByteArray := ⟨#[97]⟩
def kB : ByteArray := ⟨#[98]⟩
def kC : ByteArray := ⟨#[99]⟩
theorem k_ab : klt kA kB = true := by kernel_rfl
theorem k_bc : klt kB kC = true := by kernel_rfl
def bItems : List (ByteArray × Int) := [(kA, 1), (kB, 1)]
def yItems : List (ByteArray × Int) := [(kA, 1), (kB, 1), (kC, 1)]
theorem b_of : ofL [] bItems = some bItems := by kernel_rfl
theorem b_take : del kB bItems = [(kA, 1)] := by kernel_rfl
theorem b_put : ins kC 1 bItems = yItems := by kernel_rfl
theorem b_srt : Srt bItems := by
  refine List.Pairwise.cons (fun y hy => ?_) (List.Pairwise.cons (fun y hy => by cases hy) List.Pairwise.nil)
  rw [List.mem_singleton.1 hy]; exact k_ab
theorem ac_srt : Srt [(kA, (1 : Int)), (kC, 1)] := by
  refine List.Pairwise.cons (fun y hy => ?_) (List.Pairwise.cons (fun y hy => by cases hy) List.Pairwise.nil)
  rw [List.mem_singleton.1 hy]; exact klt_trans k_ab k_bc
theorem known_m {s a o m : Tr Int} {asked : List ByteArray} (hs : items s = bItems) (ha : items a = [(kA, 1)]) (ho : items o = yItems)
    (h : WlkO 0 (fun k => keepFI (lk 0 (items s) k) (lk 0 (items a) k) (lk 0 (items o) k)) (lk 0 (items s)) (lk 0 (items a)) (lk 0 (items o)) (fun _ => True) s a o m asked) : items m = [(kA, 1), (kC, 1)] := by
  refine lk_ext (z := 0) h.srt ac_srt fun k => ?_
  have hv : ∀ l : List (ByteArray × Int), (∀ x ∈ l, x.2 = 1) → ∀ x ∈ l, x.2 = (fun _ : ByteArray => (1 : Int)) x.1 := fun _ h => h
  rw [el_all (f := fun _ => 1) (hv _ (by rw [hs]; simp [bItems])) (hv _ (by rw [ha]; simp)) (hv _ (by rw [ho]; simp [yItems])) h k, hs, ha, ho]
  by_cases h1 : kA = k
  · subst h1; rfl
  · by_cases h2 : kB = k
    · subst h2; rfl
    · by_cases h3 : kC = k
      · subst h3; rfl
      · simp [bItems, yItems, lk, h1, h2, h3, keepFI, nrm]
theorem gd1 (t : Tr Int) (h : items t = bItems) : ∀ x ∈ items t, x.2 = 1 := by rw [h]; simp [bItems]
set_option maxRecDepth 100000 in
set_option maxHeartbeats 8000000 in
theorem wl_known (w : World) : Calls Try.prog 8 #[] w fun e w' => e = .returned (.bool true) ∧ Below w.heap.size w w' := by
  have O1 : Hid (Calls Try.prog 23 #[.slice (some ⟨w.heap.size, 0, none⟩) 2 2, .slice (some ⟨w.heap.size + 1, 0, none⟩) 2 2] ((w.alloc (.cells #[.string ⟨#[97]⟩, .string ⟨#[98]⟩] 9)).alloc (.cells #[.int .i64 1, .int .i64 1] 3)) fun e w' =>
      ∃ t, e = .returned (.tuple #[.agg #[.pointer (pa t)], .int .i64 0]) ∧ items t = bItems ∧ Bal t ∧ AtI w' t ∧ Below w.heap.size w w') := Lib.hid (by
    have k0 : CellsAt ((w.alloc (.cells #[.string ⟨#[97]⟩, .string ⟨#[98]⟩] 9)).alloc (.cells #[.int .i64 1, .int .i64 1] 3)) (some ⟨w.heap.size, 0, none⟩) (kkeysI bItems) := (CellsAt.new w 9 (0, 0) [.string ⟨#[97]⟩, .string ⟨#[98]⟩]).below (below_new _ _) rfl
    have k1 : CellsAt ((w.alloc (.cells #[.string ⟨#[97]⟩, .string ⟨#[98]⟩] 9)).alloc (.cells #[.int .i64 1, .int .i64 1] 3)) (some ⟨w.heap.size + 1, 0, none⟩) (kvalsI bItems) := by
      have h := CellsAt.new (w.alloc (.cells #[.string ⟨#[97]⟩, .string ⟨#[98]⟩] 9)) 3 (0, 0) [.int .i64 1, .int .i64 1]
      rw [World.size_alloc] at h
      exact h
    refine (pm_OfI bItems _ _ 2 2 _ k0 k1 (by simp [bItems])).mono ?_
    rintro e w3 ⟨t, n, hh, rfl, hat, hb3⟩
    rcases hh with ⟨h1, h2, h3, rfl⟩ | ⟨h1, _, _⟩
    · rw [b_of] at h1
      exact ⟨t, rfl, (Option.some.inj h1).symm, h2, hat, ((below_new w _).trans ((below_new _ _).mono (by simp))).trans (hb3.mono (by simp; omega))⟩
    · rw [b_of] at h1; cases h1)
  go_enter Try.func8, Try.ntmps8
  go_wp2_with fail
  refine O1.out.mono ?_
  rintro e w1 ⟨t, rfl, hi, hbal, hat, hb⟩
  have HI := Lib.hid hi
  have HBL := Lib.hid hbal
  have A1 := Lib.hid hat
  have D1 := Lib.hid hb
  clear hi hbal hat hb O1
  go_upto_region 2 with (fail)
  obtain ⟨c1, hc1⟩ : ∃ c, w1.heap.size = c := ⟨_, rfl⟩
  rw [hc1]
  obtain ⟨v1, hv1⟩ : ∃ W, w1.alloc (.cells #[.pointer (pa t)] 29) = W := ⟨_, rfl⟩
  rw [hv1]
  have hb : Below w1.heap.size w1 v1 := by rw [← hv1]; exact below_new _ _
  have F1 : Hid (Facts [(c1, .cells #[.pointer (pa t)] 29 (0, 0))] v1) := Lib.hid (fun p hp => by rw [List.mem_singleton.1 hp, ← hv1, ← hc1]; exact heap_alloc_new w1 _)
  have E1 : Hid (Below w.heap.size w v1) := Lib.hid (D1.out.trans (hb.mono D1.out.size))
  have T1 := Lib.hid (A1.out.below hb rfl)
  clear hb hv1 hc1 D1 A1
  have k1 := cell_of_one (F1.out _ List.mem_cons_self)
  go_wp2_with fail
  refine (pm_MTakeI t kB v1.heap.size v1 (Nat.le_refl _) T1.out (by rw [← sz_items, HI.out]; simp [bItems])).mono ?_
  rintro e w2 ⟨x, hP, rfl, hx, hb⟩
  have XX : Hid (items x = [(kA, 1)] ∧ Bal x) := Lib.hid (by
    have hs : Srt (items t) := by rw [HI.out]; exact b_srt
    rcases hP with ⟨h1, _⟩ | ⟨_, h1⟩
    · exact absurd rfl (seek_none hs h1 (kB, 1) (by rw [HI.out]; simp [bItems]))
    · exact ⟨by rw [h1.items hs, HI.out]; exact b_take, (h1.bal HBL.out).1⟩)
  go_upto_region 3 with (fail)
  obtain ⟨c2, hc2⟩ : ∃ c, w2.heap.size = c := ⟨_, rfl⟩
  rw [hc2]
  obtain ⟨v2, hv2⟩ : ∃ W, w2.alloc (.cells #[.pointer (pa x)] 29) = W := ⟨_, rfl⟩
  rw [hv2]
  have hb2 : Below w2.heap.size w2 v2 := by rw [← hv2]; exact below_new _ _
  have hbb := hb.trans (hb2.mono hb.size)
  have F2 : Hid (Facts [(c2, .cells #[.pointer (pa x)] 29 (0, 0)), (c1, .cells #[.pointer (pa t)] 29 (0, 0))] v2) := Lib.hid ((F1.out.below hbb).cons (by rw [← hv2, ← hc2]; exact heap_alloc_new w2 _))
  have E2 : Hid (Below w.heap.size w v2) := Lib.hid (E1.out.trans (hbb.mono E1.out.size))
  have T2 : Hid (AtI v2 t ∧ AtI v2 x) := Lib.hid ⟨T1.out.below hbb rfl, hx.below hb2 rfl⟩
  clear hb hb2 hbb hv2 hc2 F1 E1 T1 hx hP k1
  have k1 := cell_of_one (F2.out (c1, _) (List.mem_cons_of_mem _ List.mem_cons_self))
  go_wp2_with fail
  refine (pm_MPutI t kC 1 v2.heap.size v2 (Nat.le_refl _) T2.out.1 (by rw [← sz_items, HI.out]; simp [bItems])).mono ?_
  rintro e w3 ⟨y, hP, rfl, hy, hb⟩
  have YY : Hid (items y = yItems ∧ Bal y) := Lib.hid (by
    have hs : Srt (items t) := by rw [HI.out]; exact b_srt
    exact ⟨by rw [hP.items hs, HI.out]; exact b_put, (hP.bal HBL.out).1⟩)
  go_upto_region 4 with (fail)
  obtain ⟨c3, hc3⟩ : ∃ c, w3.heap.size = c := ⟨_, rfl⟩
  rw [hc3]
  obtain ⟨v3, hv3⟩ : ∃ W, w3.alloc (.cells #[.pointer (pa y)] 29) = W := ⟨_, rfl⟩
  rw [hv3]
  have hb3 : Below w3.heap.size w3 v3 := by rw [← hv3]; exact below_new _ _
  have hbb := hb.trans (hb3.mono hb.size)
  have F3 : Hid (Facts [(c3, .cells #[.pointer (pa y)] 29 (0, 0)), (c2, .cells #[.pointer (pa x)] 29 (0, 0)), (c1, .cells #[.pointer (pa t)] 29 (0, 0))] v3) := Lib.hid ((F2.out.below hbb).cons (by rw [← hv3, ← hc3]; exact heap_alloc_new w3 _))
  have E3 : Hid (Below w.heap.size w v3) := Lib.hid (E2.out.trans (hbb.mono E2.out.size))
  have T3 : Hid (AtI v3 t ∧ AtI v3 x ∧ AtI v3 y) := Lib.hid ⟨T2.out.1.below hbb rfl, T2.out.2.below hbb rfl, hy.below hb3 rfl⟩
  clear hb hb3 hbb hv3 hc3 F2 E2 T2 hy hP k1
  have hst : Srt (items t) := by rw [HI.out]; exact b_srt
  have hsx : Srt (items x) := by rw [XX.out.1]; simp [Srt]
  have hsy : Srt (items y) := by rw [YY.out.1, ← b_put]; exact ins_srt b_srt
  have hzt : sz t = 2 := by rw [← sz_items, HI.out]; rfl
  have hzx : sz x = 1 := by rw [← sz_items, XX.out.1]; rfl
  have hzy : sz y = 3 := by rw [← sz_items, YY.out.1]; rfl
  have W1 := Lib.hid (wlk_in ⟨HBL.out, hst⟩ ⟨XX.out.2, hsx⟩ ⟨YY.out.2, hsy⟩)
  have W2 := Lib.hid (wlk_in ⟨HBL.out, hst⟩ ⟨HBL.out, hst⟩ ⟨YY.out.2, hsy⟩)
  clear hst hsx hsy
  have k1 := cell_of_one (F3.out (c1, _) (List.mem_cons_of_mem _ (List.mem_cons_of_mem _ List.mem_cons_self)))
  have k2 := cell_of_one (F3.out (c2, _) (List.mem_cons_of_mem _ List.mem_cons_self))
  have k3 := cell_of_one (F3.out (c3, _) List.mem_cons_self)
  go_wp2_with fail
  refine (wk_ElementsI t x y v3 (by omega) (by omega) W1.out T3.out.1 T3.out.2.1 T3.out.2.2).mono ?_
  rintro e w4 ⟨m, asked, made, rfl, hO, hm, _, _, hb, _⟩
  have MM4 : Hid (items m = [(kA, 1), (kC, 1)]) := Lib.hid (known_m HI.out XX.out.1 YY.out.1 hO)
  go_upto_region 5 with (fail)
  obtain ⟨c4, hc4⟩ : ∃ c, w4.heap.size = c := ⟨_, rfl⟩
  rw [hc4]
  obtain ⟨q4, hq4⟩ : ∃ q : Int, (asked.length : Int) = q := ⟨_, rfl⟩
  rw [hq4]
  obtain ⟨v4, hv4⟩ : ∃ W, allocs w4 [.cells #[.pointer (pa m)] 29, .cells #[.int .i64 q4, .int .i64 q4, .int .i64 (made : Int)] 36] = W := ⟨_, rfl⟩
  rw [show (w4.alloc (.cells #[.pointer (pa m)] 29)).alloc (.cells #[.int .i64 q4, .int .i64 q4, .int .i64 (made : Int)] 36) = v4 from hv4]
  have hb4 : Below w4.heap.size w4 v4 := by rw [← hv4]; exact allocs_below _ _
  have hbb := hb.trans (hb4.mono hb.size)
  have F4 : Hid (Facts [(c4, .cells #[.pointer (pa m)] 29 (0, 0)), (c3, .cells #[.pointer (pa y)] 29 (0, 0)), (c2, .cells #[.pointer (pa x)] 29 (0, 0)), (c1, .cells #[.pointer (pa t)] 29 (0, 0))] v4) := Lib.hid ((F3.out.below hbb).cons (by
    have := allocs_get [.cells #[.pointer (pa m)] 29, .cells #[.int .i64 q4, .int .i64 q4, .int .i64 (made : Int)] 36] w4 0 _ rfl
    rw [hv4, hc4] at this; exact this))
  have E4 : Hid (Below w.heap.size w v4) := Lib.hid (E3.out.trans (hbb.mono E3.out.size))
  have T4 : Hid (AtI v4 t ∧ AtI v4 x ∧ AtI v4 y ∧ AtI v4 m) := Lib.hid ⟨T3.out.1.below hbb rfl, T3.out.2.1.below hbb rfl, T3.out.2.2.below hbb rfl, hm.below hb4 rfl⟩
  clear hb hb4 hbb hv4 hc4 F3 E3 T3 hm hO hq4 k1 k2 k3 W1
  have k1 : v4.cell? ⟨c1, 0, none⟩ = some (.pointer (pa t)) := F4.out.cell (t := 29) (by simp)
  have k3 : v4.cell? ⟨c3, 0, none⟩ = some (.pointer (pa y)) := F4.out.cell (t := 29) (by simp)
  go_wp2_with fail
  refine (wk_ElementsI t t y v4 (by omega) (by omega) W2.out T4.out.1 T4.out.1 T4.out.2.2.1).mono ?_
  rintro e w5 ⟨n, asked2, made2, rfl, _, hn, _, hm0, hb, htw⟩
  have hnn : asked2 = [] ∧ pa n = pa y ∧ made2 = 0 := by
    by_cases h : pa t = pa y
    · obtain ⟨h1, h2⟩ := htw.1 (.inl h)
      exact ⟨h1, by rw [h2, h], hm0 (.inl (by rw [h2]))⟩
    · obtain ⟨h1, h2⟩ := htw.2 rfl h h
      exact ⟨h1, by rw [h2], hm0 (.inr (.inr (by rw [h2])))⟩
  obtain ⟨rfl, hny, rfl⟩ := hnn
  have HNY := Lib.hid hny
  clear hny htw hm0
  go_upto_region 6 with (fail)
  obtain ⟨c5, hc5⟩ : ∃ c, w5.heap.size = c := ⟨_, rfl⟩
  rw [hc5]
  obtain ⟨v5, hv5⟩ : ∃ W, allocs w5 [.cells #[.pointer (pa n)] 29, .cells #[.int .i64 0, .int .i64 0, .int .i64 0] 36] = W := ⟨_, rfl⟩
  try simp only [List.length_nil, Int.ofNat_zero, Int.Nat.cast_ofNat_Int]
  rw [show (w5.alloc (.cells #[.pointer (pa n)] 29)).alloc (.cells #[.int .i64 0, .int .i64 0, .int .i64 0] 36) = v5 from hv5]
  have hb5 : Below w5.heap.size w5 v5 := by rw [← hv5]; exact allocs_below _ _
  have hbb := hb.trans (hb5.mono hb.size)
  have F5 : Hid (Facts [(c5 + 1, .cells #[.int .i64 0, .int .i64 0, .int .i64 0] 36 (0, 0)), (c5, .cells #[.pointer (pa n)] 29 (0, 0)), (c4, .cells #[.pointer (pa m)] 29 (0, 0)), (c3, .cells #[.pointer (pa y)] 29 (0, 0)), (c2, .cells #[.pointer (pa x)] 29 (0, 0)), (c1, .cells #[.pointer (pa t)] 29 (0, 0))] v5) := Lib.hid (((F4.out.below hbb).cons (by
    have := allocs_get [.cells #[.pointer (pa n)] 29, .cells #[.int .i64 0, .int .i64 0, .int .i64 0] 36] w5 0 _ rfl
    rw [hv5, hc5] at this; exact this)).cons (by
    have := allocs_get [.cells #[.pointer (pa n)] 29, .cells #[.int .i64 0, .int .i64 0, .int .i64 0] 36] w5 1 _ rfl
    rw [hv5, hc5] at this; exact this))
  have E5 : Hid (Below w.heap.size w v5) := Lib.hid (E4.out.trans (hbb.mono E4.out.size))
  have T5 : Hid (AtI v5 y ∧ AtI v5 m ∧ AtI v5 n) := Lib.hid ⟨T4.out.2.2.1.below hbb rfl, T4.out.2.2.2.below hbb rfl, hn.below hb5 rfl⟩
  clear hb hb5 hbb hv5 hc5 F4 E4 T4 hn k1 k3 W2
  have k1 : v5.cell? ⟨c1, 0, none⟩ = some (.pointer (pa t)) := F5.out.cell (t := 29) (by simp)
  have k2 : v5.cell? ⟨c2, 0, none⟩ = some (.pointer (pa x)) := F5.out.cell (t := 29) (by simp)
  have k3 : v5.cell? ⟨c3, 0, none⟩ = some (.pointer (pa y)) := F5.out.cell (t := 29) (by simp)
  go_wp2_with fail
  refine (wk_RunNil t x y v5).mono ?_
  rintro e w6 ⟨rfl, hb⟩
  go_upto_region 7 with (fail)
  obtain ⟨v6, hv6⟩ : ∃ W, allocs w6 [.cells #[.pointer none] 29, .cells #[.int .i64 0, .int .i64 0, .int .i64 0] 36] = W := ⟨_, rfl⟩
  rw [show (w6.alloc (.cells #[.pointer none] 29)).alloc (.cells #[.int .i64 0, .int .i64 0, .int .i64 0] 36) = v6 from hv6]
  have hb6 : Below w6.heap.size w6 v6 := by rw [← hv6]; exact allocs_below _ _
  have hbb := hb.trans (hb6.mono hb.size)
  have F6 := Lib.hid (F5.out.below hbb)
  have E6 : Hid (Below w.heap.size w v6) := Lib.hid (E5.out.trans (hbb.mono E5.out.size))
  have T6 : Hid (AtI v6 y ∧ AtI v6 m ∧ AtI v6 n) := Lib.hid ⟨T5.out.1.below hbb rfl, T5.out.2.1.below hbb rfl, T5.out.2.2.below hbb rfl⟩
  clear hb hb6 hbb hv6 F5 E5 T5 k1 k2 k3
  have hsm : Srt (items m) := by rw [MM4.out]; exact ac_srt
  have GET : Hid (∀ (k : ByteArray) (W : World), AtI W m → Calls Try.prog 16 #[.agg #[.pointer (pa m)], .string k] W fun e w' => e = .returned (.tuple #[.int .i64 (lk 0 [(kA, 1), (kC, 1)] k).1, .bool (lk 0 [(kA, (1 : Int)), (kC, 1)] k).2]) ∧ Below W.heap.size W w') := Lib.hid (fun k W h => by
    refine (pm_MGetI m k W h).mono ?_
    rintro e w' ⟨rfl, hb⟩
    have e1 := prtT_lkI (k := k) hsm
    rw [MM4.out] at e1
    unfold prtTI at e1
    rw [← e1]
    exact ⟨rfl, hb⟩)
  have hzm : sz m = 2 := by rw [← sz_items, MM4.out]; rfl
  clear hsm
  have k4 : v6.cell? ⟨c4, 0, none⟩ = some (.pointer (pa m)) := F6.out.cell (t := 29) (by simp)
  go_wp2_with fail
  refine (GET.out kA v6 T6.out.2.1).mono ?_
  rintro e v7 ⟨rfl, hb⟩
  have F7 := Lib.hid (F6.out.below hb)
  have E7 : Hid (Below w.heap.size w v7) := Lib.hid (E6.out.trans (hb.mono E6.out.size))
  have T7 : Hid (AtI v7 y ∧ AtI v7 m ∧ AtI v7 n) := Lib.hid ⟨T6.out.1.below hb rfl, T6.out.2.1.below hb rfl, T6.out.2.2.below hb rfl⟩
  clear hb F6 E6 T6 k4
  have k4 : v7.cell? ⟨c4, 0, none⟩ = some (.pointer (pa m)) := F7.out.cell (t := 29) (by simp)
  rw [show lk 0 [(kA, (1 : Int)), (kC, 1)] kA = (1, true) from rfl]
  go_wp2_with fail
  refine (GET.out kB v7 T7.out.2.1).mono ?_
  rintro e v8 ⟨rfl, hb⟩
  have F8 := Lib.hid (F7.out.below hb)
  have E8 : Hid (Below w.heap.size w v8) := Lib.hid (E7.out.trans (hb.mono E7.out.size))
  have T8 : Hid (AtI v8 y ∧ AtI v8 m ∧ AtI v8 n) := Lib.hid ⟨T7.out.1.below hb rfl, T7.out.2.1.below hb rfl, T7.out.2.2.below hb rfl⟩
  clear hb F7 E7 T7 k4
  have k4 : v8.cell? ⟨c4, 0, none⟩ = some (.pointer (pa m)) := F8.out.cell (t := 29) (by simp)
  rw [show lk 0 [(kA, (1 : Int)), (kC, 1)] kB = (0, false) from rfl]
  go_wp2_with fail
  refine (GET.out kC v8 T8.out.2.1).mono ?_
  rintro e v9 ⟨rfl, hb⟩
  have F9 := Lib.hid (F8.out.below hb)
  have E9 : Hid (Below w.heap.size w v9) := Lib.hid (E8.out.trans (hb.mono E8.out.size))
  have T9 : Hid (AtI v9 y ∧ AtI v9 m ∧ AtI v9 n) := Lib.hid ⟨T8.out.1.below hb rfl, T8.out.2.1.below hb rfl, T8.out.2.2.below hb rfl⟩
  clear hb F8 E8 T8 k4
  have k4 : v9.cell? ⟨c4, 0, none⟩ = some (.pointer (pa m)) := F9.out.cell (t := 29) (by simp)
  rw [show lk 0 [(kA, (1 : Int)), (kC, 1)] kC = (1, true) from rfl]
  go_wp2_with fail
  refine (pm_MLenI m v9 T9.out.2.1).mono ?_
  rintro e va ⟨rfl, hb⟩
  have Fa := Lib.hid (F9.out.below hb)
  have Ea : Hid (Below w.heap.size w va) := Lib.hid (E9.out.trans (hb.mono E9.out.size))
  have Ta : Hid (AtI va y ∧ AtI va n) := Lib.hid ⟨T9.out.1.below hb rfl, T9.out.2.2.below hb rfl⟩
  clear hb F9 E9 T9 k4
  rw [hzm]
  have k5 : va.cell? ⟨c5, 0, none⟩ = some (.pointer (pa n)) := Fa.out.cell (t := 29) (by simp)
  have k3 : va.cell? ⟨c3, 0, none⟩ = some (.pointer (pa y)) := Fa.out.cell (t := 29) (by simp)
  go_wp2_with fail
  refine (pm_MSameI n y va Ta.out.2 Ta.out.1).mono ?_
  rintro e vb ⟨rfl, hb⟩
  have Fb := Lib.hid (Fa.out.below hb)
  have Eb : Hid (Below w.heap.size w vb) := Lib.hid (Ea.out.trans (hb.mono Ea.out.size))
  rw [decide_eq_true HNY.out]
  clear hb Fa Ea Ta k5 k3
  have hcc := Fb.out (c5 + 1, .cells #[.int .i64 0, .int .i64 0, .int .i64 0] 36 (0, 0)) (by simp)
  have q0 := cell_of_row _ (c5 + 1) 0 _ _ _ hcc
  have q1 := cell_of_row _ (c5 + 1) 1 _ _ _ hcc
  have q2 := cell_of_row _ (c5 + 1) 2 _ _ _ hcc
  clear hcc
  go_wp2_with fail
  go_ret
  exact ⟨rfl, Eb.out⟩
end Go.Proofs.Ytdodkhhlbjamhaa

