
/- Walks: the law's goes. -/
import Derived.Test.YtikdlhbamdefaaaLwD
namespace Go.Proofs.Ytikdlhbamdefaaa
open Go.RowKit Pm
attribute [local go_sem] Oper.semAt_some
theorem goes_nil (W : World) (f : Nat) (env : Array Value) : (binOp .eql 89 (.func (.func f) #[] env) .nilFunc).run Try.prog W = .ok (.bool false) W := by
  have hp := Try.underlying89
  have h : ∀ d : Nat, (Op.equalIn (d + 1) 89 (.func (.func f) #[] env) .nilFunc).run Try.prog W = .ok false W := fun d => by simp [Op.equalIn, run_underlying hp]
  simp only [binOp]
  simp [Op.equal, Op.maxDepth, h 9999]
/-- Between two turns, and between two rounds of one: these blocks lie as they lay. -/
def Facts (H : List (Nat × Obj)) (W : World) : Prop := ∀ p ∈ H, W.heap[p.1]? = some p.2
theorem Facts.below {H : List (Nat × Obj)} {A B : World} (h : Facts H A) (hb : Below A.heap.size A B) : Facts H B := fun p hp => (hb.block _ (Array.getElem?_eq_some_iff.1 (h p hp)).1).trans (h p hp)
theorem below_put (s : Nat) (A : World) (D : Nat) (o : Obj) (h : s ≤ D) : Below s A (A.putObj D o) := ⟨rfl, rfl, rfl, by simp, fun k hk => World.putObj_heap_other (by omega)⟩
theorem Facts.setCell {H : List (Nat × Obj)} {A : World} {c : Nat} (h : Facts H A) (hc : ∀ p ∈ H, p.1 ≠ c) (v : Value) : Facts H (A.setCell ⟨c, 0, none⟩ v) := fun p hp => (Below.heap_setCell _ _ _ _ (by simpa using hc p hp)).trans (h p hp)
theorem Facts.lt {H : List (Nat × Obj)} {A : World} (h : Facts H A) : ∀ p ∈ H, p.1 < A.heap.size := fun p hp => (Array.getElem?_eq_some_iff.1 (h p hp)).1
theorem facts_own {β : Type} (H : List (Nat × Obj)) (B : Nat) (hH : ∀ p ∈ H, p.1 < B) : OwnFrom B (fun (_ : β) W => Facts H W) := by
  rintro b A A' row h hg hr p hp
  exact ownAtI (β := Unit) (hH p hp) () A A' row (h p hp) hg hr
def GoI (H : List (Nat × Obj)) (s c : Nat) (w : World) (pre : List (ByteArray × Int)) (W : World) : Prop :=
  Facts H W ∧ Boxed W c 3 (.int .i64 (pre.length : Int)) ∧ Below s w W
theorem goI_own (H : List (Nat × Obj)) (s c : Nat) (w : World) (B : Nat) (hs : s ≤ w.heap.size) (hB : s ≤ B) (hc : c < B) (hH : ∀ p ∈ H, p.1 < B) : OwnFrom B (GoI H s c w) := by
  rintro pre A A' row ⟨h1, h2, h3⟩ hg hr
  exact ⟨facts_own (β := Unit) H B hH () A A' row h1 hg hr, ownAtI (β := Unit) hc () A A' row h2 hg hr, ownFrom_below (β := Unit) hs hB () A A' row h3 hg hr⟩
/-- The slots: those that are known, those that are not. -/
def goT (g : Nat → Value) (s kb mb T : Nat) : Array Value := #[g 0, g 1, g 2, g 3, g 4, .pointer (some ⟨s, 0, none⟩), .pointer (some ⟨s + 1, 0, none⟩), .pointer (some ⟨s + 2, 0, none⟩), g 8, g 9, .pointer (some ⟨s + 3, 0, none⟩), .func (.func 53) #[] #[.pointer (some ⟨kb, 0, none⟩), .pointer (some ⟨mb, 0, none⟩)], .pointer (some ⟨T, 0, none⟩), g 13, g 14, g 15, g 16, g 17, g 18, g 19, g 20, g 21, g 22, g 23, g 24, g 25, g 26, g 27, g 28, g 29, g 30, g 31, g 32, g 33, g 34, g 35, g 36, g 37, g 38, g 39, g 40, g 41, g 42, g 43, g 44, g 45, g 46, g 47, g 48, g 49, g 50, g 51, g 52, g 53, g 54, g 55, g 56, g 57, g 58, g 59, g 60, g 61, g 62, g 63, g 64, g 65, g 66, g 67, g 68, g 69, g 70, g 71, g 72, g 73, g 74, g 75]
def goH (t : Tr Int) (s kb mb : Nat) (k0 : ByteArray) (sl : Value) (leave : Int) : List (Nat × Obj) :=
  [(s, .cells #[.pointer (pa t)] 26 (0, 0)), (s + 1, .cells #[sl] 27 (0, 0)), (s + 2, .cells #[.int .i64 leave] 3 (0, 0)), (s + 3, .cells #[.bool false] 4 (0, 0)), (kb, .cells #[.string k0] 9 (0, 0)), (mb, .cells #[.pointer (pa t)] 26 (0, 0))]
def goD (Ds : List Nat) : List (Nat × Obj) := Ds.map fun D => (D, .deferred (some []))
set_option maxRecDepth 100000 in
set_option maxHeartbeats 4000000 in
theorem lw_goes (t : Tr Int) (xs : List (ByteArray × Int)) (a : Option Addr) (cap : Nat) (leave : Int) (all : Bool) (key : ByteArray) (w : World) (ha : AtI w t) (hc : CellsAt w a (entV xs)) (hx : fromL (if all then ⟨#[]⟩ else key) t = xs) (hs : xs.length ≤ 1073741824) :
    Calls Try.prog 38 #[.agg #[.pointer (pa t)], .slice a xs.length cap, .int .i64 leave, .bool all, .string key] w fun e w' => e = .returned (.bool true) ∧ Below w.heap.size w w' := by
  have HA := Lib.hid ha
  have HCX := Lib.hid hc
  obtain ⟨k0, hk0⟩ : ∃ k0, (if all then ⟨#[]⟩ else key) = k0 := ⟨_, rfl⟩
  rw [hk0] at hx
  have HK0 := Lib.hid hk0
  have HX := Lib.hid hx
  clear ha hc hx hk0
  obtain ⟨s, hs0⟩ : ∃ s, s = w.heap.size := ⟨_, rfl⟩
  have hnn := goes_nil
  refine (callsIn_wide (n := 6)).1 ?_
  refine callsIn_of_wp_marks Try.func38 rfl trivial ?_ rfl
  simp only [Try.ntmps38, List.size_toArray, List.length_cons, List.length_nil, Nat.reduceAdd, Nat.reduceSub, Array.replicate_succ, Array.replicate_zero, List.push_toArray, List.append_toArray, List.nil_append, List.cons_append]
  gi_wp2
  obtain ⟨W2, hW2⟩ : ∃ W2, (((w.alloc (.cells #[.pointer (pa t)] 26)).alloc (.cells #[.slice a xs.length cap] 27)).alloc (.cells #[.int .i64 leave] 3)).alloc (.cells #[.bool false] 4) = W2 := ⟨_, rfl⟩
  have z2 : W2.heap.size = s + 4 := by rw [← hW2, hs0]; simp
  have c0 : W2.heap[s]? = some (.cells #[.pointer (pa t)] 26 (0, 0)) := by rw [← hW2, hs0]; exact (((Boxed.new w _ _).alloc _).alloc _).alloc _
  have c1 : W2.heap[s + 1]? = some (.cells #[.slice a xs.length cap] 27 (0, 0)) := by
    have h1 := ((Boxed.new (w.alloc (.cells #[.pointer (pa t)] 26)) 27 (.slice a xs.length cap)).alloc (.cells #[.int .i64 leave] 3)).alloc (.cells #[.bool false] 4)
    rw [World.size_alloc, hW2, ← hs0] at h1
    exact h1
  have c2 : W2.heap[s + 2]? = some (.cells #[.int .i64 leave] 3 (0, 0)) := by
    have h1 := (Boxed.new ((w.alloc (.cells #[.pointer (pa t)] 26)).alloc (.cells #[.slice a xs.length cap] 27)) 3 (.int .i64 leave)).alloc (.cells #[.bool false] 4)
    rw [World.size_alloc, World.size_alloc, hW2, ← hs0] at h1
    exact h1
  have c3 : W2.heap[s + 3]? = some (.cells #[.bool false] 4 (0, 0)) := by
    have h1 := Boxed.new (((w.alloc (.cells #[.pointer (pa t)] 26)).alloc (.cells #[.slice a xs.length cap] 27)).alloc (.cells #[.int .i64 leave] 3)) 4 (.bool false)
    rw [World.size_alloc, World.size_alloc, World.size_alloc, hW2, ← hs0] at h1
    exact h1
  have hb2 : Below s w W2 := by rw [← hW2, hs0]; exact ((((Below.refl _ w).alloc (Nat.le_refl _) _).alloc (by simp) _).alloc (by simp; omega) _).alloc (by simp; omega) _
  rw [hW2, ← hs0]
  have HS := Lib.hid hs0
  clear hW2 hs0
  have F0 : Hid (Facts [(s, .cells #[.pointer (pa t)] 26 (0, 0)), (s + 1, .cells #[.slice a xs.length cap] 27 (0, 0)), (s + 2, .cells #[.int .i64 leave] 3 (0, 0)), (s + 3, .cells #[.bool false] 4 (0, 0))] W2) := Lib.hid (by
    intro p hp
    simp at hp
    rcases hp with rfl | rfl | rfl | rfl
    · exact c0
    · exact c1
    · exact c2
    · exact c3)
  have HB2 := Lib.hid hb2
  clear c1 c2 c3 hb2
  refine ⟨trivial, ?_⟩
  refine (callsIn_wide.2 (pm_MFromI t key W2)).mono ?_
  rintro e W5 ⟨kb, mb, rfl, hkb, hmb, hbk, hbm, hb5⟩
  have HB5 := Lib.hid hb5
  have HK := Lib.hid hbk
  have HM := Lib.hid hbm
  have e0 := cell_of_one (boxStays c0 hb5)
  clear hbk hbm hb5
  cases all
  case' true =>
    gi_wp2
    refine ⟨trivial, ?_⟩
    refine (callsIn_wide.2 (pm_MAllI t W5)).mono ?_
    clear hkb hmb HK HM
    rintro e W6 ⟨kb, mb, rfl, hkb, hmb, hbk, hbm, hb5⟩
    have HK : Hid (Boxed W6 kb 9 (.string k0)) := Lib.hid (by rw [← HK0.out]; exact hbk)
    have HM := Lib.hid hbm
    have HBT : Hid (Below W2.heap.size W2 W6) := Lib.hid (HB5.out.trans (hb5.mono HB5.out.size))
    replace hkb : W2.heap.size ≤ kb := by have := HB5.out.size; omega
    replace hmb : W2.heap.size ≤ mb := by have := HB5.out.size; omega
    clear HB5 hbk hbm hb5
  case' false =>
    have HBT := HB5
    obtain ⟨W6, hW6⟩ : ∃ W6, W5 = W6 := ⟨_, rfl⟩
    rw [hW6]
    rw [hW6] at HK HM HBT
    replace HK : Hid (Boxed W6 kb 9 (.string k0)) := Lib.hid (by rw [← HK0.out]; exact HK.out)
    clear HB5 hW6
  all_goals
    clear e0 HK0
    gi_wp2
  all_goals
    clear hnn c0
    obtain ⟨n, hn⟩ : ∃ n, xs.length = n := ⟨_, rfl⟩
    have HN := Lib.hid hn
    rw [hn] at hs F0
    rw [hn]
    clear hn
    have hwb : s + 4 ≤ W6.heap.size := by have := HBT.out.size; omega
    have hkl : kb < W6.heap.size := HK.out.lt
    have hml : mb < W6.heap.size := HM.out.lt
    have F7 : Hid (Facts (goH t s kb mb k0 (.slice a n cap) leave ++ (W6.heap.size, .cells #[.int .i64 ((0 : Nat) : Int)] 3 (0, 0)) :: goD []) (W6.alloc (.cells #[.int .i64 0] 3))) := Lib.hid (by
      have f := (F0.out.below HBT.out).below (below_new W6 (.cells #[.int .i64 0] 3))
      intro p hp
      simp only [goH, goD, List.map_nil, List.mem_append, List.mem_cons, List.not_mem_nil, or_false] at hp
      rcases hp with (rfl | rfl | rfl | rfl | rfl | rfl) | rfl
      · exact f _ (by simp)
      · exact f _ (by simp)
      · exact f _ (by simp)
      · exact f _ (by simp)
      · exact boxStays HK.out (below_new _ _)
      · exact boxStays HM.out (below_new _ _)
      · exact Boxed.new _ _ _)
    have B7 : Hid (Below s w (W6.alloc (.cells #[.int .i64 0] 3))) := Lib.hid ((HB2.out.trans (HBT.out.mono (by omega))).trans ((below_new _ _).mono (by omega)))
    refine wpIn_loop (fun a' w1 => ∃ (u T : Nat) (Ds : List Nat), a' = { tmps := goT (fun i => a'.tmps.getD i undef) s kb mb T, defers := Ds.map fun D => { target := .collected D, args := #[] } } ∧ Ds.length = u ∧ u ≤ 2 ∧ s + 4 ≤ T ∧ kb < T ∧ mb < T ∧ Hid (Facts (goH t s kb mb k0 (.slice a n cap) leave ++ (T, .cells #[.int .i64 (u : Int)] 3 (0, 0)) :: goD Ds) w1) ∧ Ds.Nodup ∧ (∀ D ∈ Ds, s + 4 ≤ D) ∧ Hid (Below s w w1)) (fun a' _ => 2 - a'.defers.length) ⟨0, W6.heap.size, [], rfl, rfl, by omega, hwb, hkl, hml, F7, List.nodup_nil, by simp, B7⟩ ?_
    clear F7 B7 F0 HBT HK HM HB2
    rintro a' w1 ⟨u, T, Ds, he, hlen, hu, hT, hkT, hmT, HF, hnd, hD4, HB⟩
    generalize (fun i => a'.tmps.getD i undef) = g at he
    subst he
    simp only [goT]
    have eT : w1.cell? ⟨T, 0, none⟩ = some (.int .i64 (u : Int)) := cell_of_one (HF.out _ (List.mem_append_right _ List.mem_cons_self))
    by_cases hu2 : u < 2
    · have hui : (u : Int) < 2 := by omega
      have hTl : T < w1.heap.size := block_lt_of_cell eT
      gi_wp2
      clear eT
      obtain ⟨c, hc⟩ : ∃ c, c = w1.heap.size := ⟨_, rfl⟩
      rw [← hc]
      obtain ⟨W8, hW8⟩ : ∃ W8, w1.alloc (.cells #[.int .i64 0] 3) = W8 := ⟨_, rfl⟩
      rw [hW8]
      obtain ⟨H, hH⟩ : ∃ H, goH t s kb mb k0 (.slice a n cap) leave ++ (T, .cells #[.int .i64 (u : Int)] 3 (0, 0)) :: goD Ds = H := ⟨_, rfl⟩
      rw [hH] at HF
      have hHl : ∀ p ∈ H, p.1 < c := fun p hp => by rw [hc]; exact HF.out.lt p hp
      have g8 : Boxed W8 c 3 (.int .i64 ((([] : List (ByteArray × Int)).length : Nat) : Int)) := by rw [← hW8, hc]; exact Boxed.new _ _ _
      have hb8 : Below w1.heap.size w1 W8 := by rw [← hW8]; exact below_new _ _
      have z8 : W8.heap.size = c + 1 := by rw [← hW8, hc]; simp
      have hsc : s + 4 ≤ c := by omega
      have D8 : Below s w W8 := HB.out.trans (hb8.mono (by omega))
      have F8 : Facts H W8 := HF.out.below hb8
      have hkc : kb < c := by omega
      have hTc : T ≠ c := by omega
      have hTc4 : mb < c := by omega
      have HHD := Lib.hid hH
      have e1m : ∀ p ∈ goH t s kb mb k0 (.slice a n cap) leave, p ∈ H := fun p hp => by rw [← hH]; exact List.mem_append_left _ hp
      have eTm : (T, Obj.cells #[.int .i64 (u : Int)] 3 (0, 0)) ∈ H := by rw [← hH]; exact List.mem_append_right _ List.mem_cons_self
      have m1 : (s + 1, Obj.cells #[.slice a n cap] 27 (0, 0)) ∈ H := e1m _ (by simp [goH])
      have m2 : (s + 2, Obj.cells #[.int .i64 leave] 3 (0, 0)) ∈ H := e1m _ (by simp [goH])
      have mk : (kb, Obj.cells #[.string k0] 9 (0, 0)) ∈ H := e1m _ (by simp [goH])
      have mm : (mb, Obj.cells #[.pointer (pa t)] 26 (0, 0)) ∈ H := e1m _ (by simp [goH])
      have xk : Boxed W8 kb 9 (.string k0) := F8 _ mk
      have xm : Boxed W8 mb 26 (.pointer (pa t)) := F8 _ mm
      clear hW8 hb8 hc hH HF
      have HIter := pm_from_iterI 5 k0 t kb mb W8 (fun k => k = kb ∨ k < s) (fun _ => False) xk xm (HA.out.below D8 HS.out) (.inl rfl) (fun k hk => .inr (by rw [HS.out]; exact HA.out.lt k hk)) (fun k hk => by omega) (fun h => h) (fun h => h)
      rw [HX.out] at HIter
      have hsw : s ≤ w.heap.size := by rw [HS.out]; exact Nat.le_refl _
      have OWN := fun (B : Nat) (hB : W8.heap.size ≤ B) => goI_own H s c w B hsw (by omega) (by omega) (fun p hp => by have := hHl p hp; omega)
      refine range_law2 (n := 6) rfl (enters_of Try.func53 (by kernel_rfl) rfl) HIter (by omega) KeepE.trans (fun W o o' _ _ => KeepE.put W _ o' (by omega) (fun k hk => by omega)) (fun x => rfl) (fun pre => (by rintro _ _ _ _ h _ _; exact h)) ?_ (GoI H s c w) (fun code pre W => code = .exit 2 ∧ u = 0 ∧ (pre.length : Int) = leave ∧ GoI H s c w pre W) (fun ys W => ys = xs ∧ GoI H s c w ys W) (OWN _ (Nat.le_refl _)) ?_ ?_ ?_ ⟨F8, g8, D8⟩
        (fun pre x a' W => GoI H s c w pre W ∧ pre ++ [x] <+: xs ∧ a' = { tmps := #[g 0, g 1, g 2, g 3, g 4, .pointer (some ⟨s, 0, none⟩), .pointer (some ⟨s + 1, 0, none⟩), .pointer (some ⟨s + 2, 0, none⟩), g 8, g 9, .pointer (some ⟨s + 3, 0, none⟩), .func (.func 53) #[] #[.pointer (some ⟨kb, 0, none⟩), .pointer (some ⟨mb, 0, none⟩)], .pointer (some ⟨T, 0, none⟩), .pointer (some ⟨c, 0, none⟩), .string x.1, .int .i64 x.2, g 16, g 17, g 18, g 19, g 20, g 21, g 22, g 23, .int .i64 (u : Int), .bool true, g 26, g 27, .func (.func 53) #[] #[.pointer (some ⟨kb, 0, none⟩), .pointer (some ⟨mb, 0, none⟩)], .string x.1, .int .i64 x.2, g 31, g 32, g 33, g 34, g 35, g 36, g 37, g 38, g 39, g 40, g 41, g 42, g 43, g 44, g 45, g 46, g 47, g 48, g 49, g 50, g 51, g 52, g 53, g 54, g 55, g 56, g 57, g 58, g 59, g 60, g 61, g 62, g 63, g 64, g 65, g 66, g 67, g 68, g 69, g 70, g 71, g 72, g 73, g 74, g 75], defers := [] }) ?_ ?assign ?body ?done ?stop
      · rintro W1 _ ys A B ⟨_, rfl⟩ k o _ ho _; exact ho
      · rintro code pre A A' row ⟨h1, h2, h3, h4⟩ hg hr; exact ⟨h1, h2, h3, OWN _ (Nat.le_refl _) pre A A' row h4 hg hr⟩
      · rintro ys A A' row ⟨h1, h2⟩ hg hr; exact ⟨h1, OWN _ (Nat.le_refl _) ys A A' row h2 hg hr⟩
      · rintro W1 _ ys A B h ⟨h1, rfl⟩; exact ⟨h1, h⟩
      · rintro x a' pre A A' row ⟨h1, h2, h3⟩ hg hr
        exact ⟨OWN _ (Nat.le_refl _) pre A A' row h1 hg hr, h2, h3⟩
      case assign =>
        intro l pre x W K hi hx hsz hK
        have HI := Lib.hid hi
        clear hi HIter xk xm g8 F8 D8
        simp only [encKVI, List.zip_toArray, List.zip_cons_cons, List.zip_nil_right, List.foldl_toArray, List.foldl_cons, List.foldl_nil]
        gi_wp2
        exact hK _ _ ⟨Nat.le_refl _, fun _ _ _ h _ => h⟩ (KeepE.refl _) hsz ⟨HI.out, hx, rfl⟩
      case body =>
        clear HIter xk xm g8 F8 D8
        rintro ll pre ⟨k, v⟩ a' W ⟨⟨hf, hbx, hbl⟩, hp, rfl⟩ hsz
        have hpl := hp.length_le
        simp only [List.length_append, List.length_cons, List.length_nil, HN.out] at hpl
        have hget : xs[pre.length]? = some (k, v) := by
          obtain ⟨suf, rfl⟩ := hp
          simp
        obtain ⟨j, hj⟩ : ∃ j, pre.length = j := ⟨_, rfl⟩
        have HJ := Lib.hid hj
        rw [hj] at hpl hget hbx
        clear hj hp
        obtain ⟨hjl, hge⟩ := List.getElem?_eq_some_iff.1 hget
        obtain ⟨v0, v1⟩ := entV_get xs j hjl
        rw [hge] at v0 v1
        obtain ⟨b, off, ha, hc0⟩ := HCX.out.get _ _ v0
        obtain ⟨b', off', ha', hc1⟩ := HCX.out.get _ _ v1
        rw [ha] at ha'
        cases ha'
        subst ha
        have hbW : Below w.heap.size w W := by rw [← HS.out]; exact hbl
        have q0 : W.cell? ⟨b, off + j * 2, none⟩ = some (.string k) := (hbW.cell (p := ⟨b, off + j * 2, none⟩) (block_lt_of_cell hc0)).trans hc0
        have q1 : W.cell? ⟨b, off + j * 2 + 1, none⟩ = some (.int .i64 v) := (hbW.cell (p := ⟨b, off + (j * 2 + 1), none⟩) (block_lt_of_cell hc1)).trans hc1
        have e1 : W.cell? ⟨s + 1, 0, none⟩ = some (.slice (some ⟨b, off, none⟩) n cap) := cell_of_one (hf _ m1)
        have e2 : W.cell? ⟨s + 2, 0, none⟩ = some (.int .i64 leave) := cell_of_one (hf _ m2)
        have eT : W.cell? ⟨T, 0, none⟩ = some (.int .i64 (u : Int)) := cell_of_one (hf _ eTm)
        have eC := cell_of_one hbx
        have fC := hbx.frozen
        have t1 : (W.setCell ⟨c, 0, none⟩ (.int .i64 ((j : Int) + 1))).cell? ⟨T, 0, none⟩ = some (.int .i64 (u : Int)) := cell_of_one ((Below.heap_setCell _ _ _ _ (by simpa using hTc)).trans (hf _ eTm))
        have t2 : (W.setCell ⟨c, 0, none⟩ (.int .i64 ((j : Int) + 1))).cell? ⟨s + 2, 0, none⟩ = some (.int .i64 leave) := cell_of_one ((Below.heap_setCell _ _ _ _ (by simp; omega)).trans (hf _ m2))
        have t3 : (W.setCell ⟨c, 0, none⟩ (.int .i64 ((j : Int) + 1))).cell? ⟨c, 0, none⟩ = some (.int .i64 ((j : Int) + 1)) := (hbx.set _).cell
        have hnle : ¬ n ≤ j := by omega
        have hdle : decide (n ≤ j) = false := by simp; omega
        have hji : (j : Int) < (n : Int) := by omega
        have HF := Lib.hid hf
        have HBX := Lib.hid hbx
        have HBL := Lib.hid hbl
        clear hf hbx hbl hbW hc0 hc1 v0 v1 hge hget
        have hu01 : u = 0 ∨ u = 1 := by omega
        have KF : KeepsFrom (c + 1) W (W.setCell ⟨c, 0, none⟩ (.int .i64 ((j : Int) + 1))) := (KeepsOthers.setCell _ _ _).from _
        have KE : KeepE (c + 1 + 2) (fun k => k = kb ∨ k < s) (fun _ => False) W (W.setCell ⟨c, 0, none⟩ (.int .i64 ((j : Int) + 1))) := KeepE.setCell W c 0 _ (by omega) (by omega)
        have GG : GoI H s c w (pre ++ [(k, v)]) (W.setCell ⟨c, 0, none⟩ (.int .i64 ((j : Int) + 1))) := ⟨HF.out.setCell (fun p hp => by have := hHl p hp; omega) _, by rw [List.length_append, HJ.out]; simpa using HBX.out.set (.int .i64 ((j : Int) + 1)), HBL.out.setCell (p := ⟨c, 0, none⟩) (by simp; omega) _⟩
        have KF := Lib.hid KF
        have KE := Lib.hid KE
        have GG := Lib.hid GG
        rcases hu01 with rfl | rfl
        · by_cases hlv : (j : Int) + 1 = leave
          · subst hlv
            gi_wp2
            try rw [z8]
            first | exact ⟨KF.out, KE.out, by rw [List.length_append, HJ.out]; simp, GG.out⟩ | exact ⟨KF.out, KE.out, rfl, by rw [List.length_append, HJ.out]; simp, GG.out⟩
          · gi_wp2
            try rw [z8]
            exact ⟨KF.out, KE.out, GG.out⟩
        · gi_wp2
          try rw [z8]
          exact ⟨KF.out, KE.out, GG.out⟩
      case done =>
        clear HIter xk xm g8 F8 D8
        rintro D ys W1 hD ⟨rfl, hf, hbx, hbl⟩ hK
        rw [HN.out] at hbx
        have e1 : W1.cell? ⟨s + 1, 0, none⟩ = some (.slice a n cap) := cell_of_one (hf _ m1)
        have eT : W1.cell? ⟨T, 0, none⟩ = some (.int .i64 (u : Int)) := cell_of_one (hf _ eTm)
        have eC := cell_of_one hbx
        have HF := Lib.hid hf
        have HBL := Lib.hid hbl
        have HKD := Lib.hid hK
        clear hf hbx hbl hK
        simp only [Exit.inBlock]
        gi_wp2
        have hDl : D < W1.heap.size := (Array.getElem?_eq_some_iff.1 HKD.out).1
        have hDs : ∀ D' ∈ Ds, D' < c := fun D' h => hHl (D', .deferred (some [])) (by rw [← HHD.out]; exact List.mem_append_right _ (List.mem_cons_of_mem _ (List.mem_map.2 ⟨D', h, rfl⟩)))
        have NEW : Facts (goH t s kb mb k0 (.slice a n cap) leave ++ (W1.heap.size, .cells #[.int .i64 ((u + 1 : Nat) : Int)] 3 (0, 0)) :: goD (D :: Ds)) (W1.alloc (.cells #[.int .i64 ((u : Int) + 1)] 3)) := by
          have f := HF.out.below (below_new W1 (.cells #[.int .i64 ((u : Int) + 1)] 3))
          intro p hp
          rcases List.mem_append.1 hp with h | h
          · exact f p (by rw [← HHD.out]; exact List.mem_append_left _ h)
          · rcases List.mem_cons.1 h with rfl | h
            · exact Boxed.new W1 3 (.int .i64 ((u : Int) + 1))
            · rcases List.mem_cons.1 h with rfl | h
              · exact ((below_new W1 (.cells #[.int .i64 ((u : Int) + 1)] 3)).block _ hDl).trans HKD.out
              · exact f p (by rw [← HHD.out]; exact List.mem_append_right _ (List.mem_cons_of_mem _ h))
        have B9 := Lib.hid (HBL.out.trans ((below_new W1 (.cells #[.int .i64 ((u : Int) + 1)] 3)).mono (by have := HBL.out.size; omega)))
        have NW := Lib.hid NEW
        clear NEW
        refine ⟨⟨u + 1, W1.heap.size, D :: Ds, rfl, by simp [hlen], by omega, by omega, by omega, by omega, NW, List.nodup_cons.2 ⟨fun h => by have := hDs D h; omega, hnd⟩, fun D' h => ?_, B9⟩, ?_⟩
        · rcases List.mem_cons.1 h with rfl | h
          · omega
          · exact hD4 D' h
        · simp [hlen] <;> omega
      case stop =>
        clear HIter xk xm g8 F8 D8
        rintro D code pre W1 hD hSp ⟨rfl, hu0, hlv, hf, hbx, hbl⟩ hK
        subst hu0
        have hpl := hSp.length_le
        rw [HN.out] at hpl
        obtain ⟨j, hj⟩ : ∃ j, pre.length = j := ⟨_, rfl⟩
        rw [hj] at hpl hlv hbx
        have e1 : W1.cell? ⟨s + 1, 0, none⟩ = some (.slice a n cap) := cell_of_one (hf _ m1)
        have e2 : W1.cell? ⟨s + 2, 0, none⟩ = some (.int .i64 leave) := cell_of_one (hf _ m2)
        have eT : W1.cell? ⟨T, 0, none⟩ = some (.int .i64 ((0 : Nat) : Int)) := cell_of_one (hf _ eTm)
        have eC := cell_of_one hbx
        have HF := Lib.hid hf
        have HBL := Lib.hid hbl
        have HKD := Lib.hid hK
        clear hf hbx hbl hK
        subst hlv
        by_cases hjn : j = n
        · subst hjn
          gi_wp2
          have hDl : D < W1.heap.size := (Array.getElem?_eq_some_iff.1 HKD.out).1
          have hDs : ∀ D' ∈ Ds, D' < c := fun D' h => hHl (D', .deferred (some [])) (by rw [← HHD.out]; exact List.mem_append_right _ (List.mem_cons_of_mem _ (List.mem_map.2 ⟨D', h, rfl⟩)))
          have NEW : Facts (goH t s kb mb k0 (.slice a j cap) ((j : Nat) : Int) ++ (W1.heap.size, .cells #[.int .i64 ((0 + 1 : Nat) : Int)] 3 (0, 0)) :: goD (D :: Ds)) (W1.alloc (.cells #[.int .i64 1] 3)) := by
            have f := HF.out.below (below_new W1 (.cells #[.int .i64 1] 3))
            intro p hp
            rcases List.mem_append.1 hp with h | h
            · exact f p (by rw [← HHD.out]; exact List.mem_append_left _ h)
            · rcases List.mem_cons.1 h with rfl | h
              · exact Boxed.new W1 3 (.int .i64 1)
              · rcases List.mem_cons.1 h with rfl | h
                · exact ((below_new W1 (.cells #[.int .i64 1] 3)).block _ hDl).trans HKD.out
                · exact f p (by rw [← HHD.out]; exact List.mem_append_right _ (List.mem_cons_of_mem _ h))
          have B9 := Lib.hid (HBL.out.trans ((below_new W1 (.cells #[.int .i64 1] 3)).mono (by have := HBL.out.size; omega)))
          have NW := Lib.hid NEW
          clear NEW
          refine ⟨⟨0 + 1, W1.heap.size, D :: Ds, rfl, by simp [hlen], by omega, by omega, by omega, by omega, NW, List.nodup_cons.2 ⟨fun h => by have := hDs D h; omega, hnd⟩, fun D' h => ?_, B9⟩, ?_⟩
          · rcases List.mem_cons.1 h with rfl | h
            · omega
            · exact hD4 D' h
          · simp [hlen] <;> omega
        · gi_wp2
          have hDl : D < W1.heap.size := (Array.getElem?_eq_some_iff.1 HKD.out).1
          have hDs : ∀ D' ∈ Ds, D' < c := fun D' h => hHl (D', .deferred (some [])) (by rw [← HHD.out]; exact List.mem_append_right _ (List.mem_cons_of_mem _ (List.mem_map.2 ⟨D', h, rfl⟩)))
          have NEW : Facts (goH t s kb mb k0 (.slice a n cap) ((j : Nat) : Int) ++ (W1.heap.size, .cells #[.int .i64 ((0 + 1 : Nat) : Int)] 3 (0, 0)) :: goD (D :: Ds)) (W1.alloc (.cells #[.int .i64 1] 3)) := by
            have f := HF.out.below (below_new W1 (.cells #[.int .i64 1] 3))
            intro p hp
            rcases List.mem_append.1 hp with h | h
            · exact f p (by rw [← HHD.out]; exact List.mem_append_left _ h)
            · rcases List.mem_cons.1 h with rfl | h
              · exact Boxed.new W1 3 (.int .i64 1)
              · rcases List.mem_cons.1 h with rfl | h
                · exact ((below_new W1 (.cells #[.int .i64 1] 3)).block _ hDl).trans HKD.out
                · exact f p (by rw [← HHD.out]; exact List.mem_append_right _ (List.mem_cons_of_mem _ h))
          have B9 := Lib.hid (HBL.out.trans ((below_new W1 (.cells #[.int .i64 1] 3)).mono (by have := HBL.out.size; omega)))
          have NW := Lib.hid NEW
          clear NEW
          refine ⟨⟨0 + 1, W1.heap.size, D :: Ds, rfl, by simp [hlen], by omega, by omega, by omega, by omega, NW, List.nodup_cons.2 ⟨fun h => by have := hDs D h; omega, hnd⟩, fun D' h => ?_, B9⟩, ?_⟩
          · rcases List.mem_cons.1 h with rfl | h
            · omega
            · exact hD4 D' h
          · simp [hlen] <;> omega
    · have hui : ¬ (u : Int) < 2 := by omega
      obtain ⟨D1, D0, rfl⟩ : ∃ D1 D0, Ds = [D1, D0] := by
        match Ds, (show Ds.length = 2 by omega) with
        | [D1, D0], _ => exact ⟨D1, D0, rfl⟩
      have f3 : Boxed w1 (s + 3) 4 (.bool false) := HF.out (s + 3, _) (by simp [goH])
      have r1 : w1.heap[D1]? = some (.deferred (some [])) := HF.out (D1, _) (by simp [goD])
      have r0 : w1.heap[D0]? = some (.deferred (some [])) := HF.out (D0, _) (by simp [goD])
      have hne : D1 ≠ D0 := by simpa using hnd
      have h1 := hD4 D1 (by simp)
      have h0 := hD4 D0 (by simp)
      have e3 := cell_of_one f3
      have g3 := f3.frozen
      have F3 := Lib.hid f3
      have R1 := Lib.hid r1
      have R0 := Lib.hid r0
      clear f3 r1 r0 hnd hD4 HF
      simp only [List.map_cons, List.map_nil]
      gi_wp2
      have b2 : Boxed (w1.setCell ⟨s + 3, 0, none⟩ (.bool true)) (s + 3) 4 (.bool true) := F3.out.set _
      have k1 : (w1.setCell ⟨s + 3, 0, none⟩ (.bool true)).heap[D1]? = some (.deferred (some [])) := (Below.heap_setCell _ _ _ _ (by simp; omega)).trans R1.out
      have k0' : ((w1.setCell ⟨s + 3, 0, none⟩ (.bool true)).putObj D1 (.deferred none)).heap[D0]? = some (.deferred (some [])) := (World.putObj_heap_other (by omega)).trans ((Below.heap_setCell _ _ _ _ (by simp; omega)).trans R0.out)
      have b3 : Boxed (((w1.setCell ⟨s + 3, 0, none⟩ (.bool true)).putObj D1 (.deferred none)).putObj D0 (.deferred none)) (s + 3) 4 (.bool true) := (World.putObj_heap_other (by omega)).trans ((World.putObj_heap_other (by omega)).trans b2)
      have k9 := cell_of_one b3
      refine ⟨by simp, .inl ⟨_, _, rfl, run_takeDeferred k1, ?_⟩⟩
      refine ⟨by simp, .inl ⟨_, _, rfl, run_takeDeferred k0', ?_⟩⟩
      refine ⟨.bool true, by simp [results, Try.results38, go_sem, k9], rfl, ?_⟩
      rw [← HS.out]
      exact ((HB.out.setCell (p := ⟨s + 3, 0, none⟩) (by simp) (.bool true)).trans (below_put s _ D1 _ (by omega))).trans (below_put s _ D0 _ (by omega))
end Go.Proofs.Ytikdlhbamdefaaa

