/- Words, contracts and walks that the proof stands on (KnO). -/
import Derived.Test.YtjlliohjeiclaaaGreatDoorKB10
import Derived.Test.YtjlliohjeiclaaaGreatDoorKB12
import Derived.Test.YtjlliohjeiclaaaGreatDoorKB3
namespace Go.Proofs.YtjlliohjeiclaaaGreatDoor
open Go.RowKit St Pm Ku Kn
theorem kn_num (e : Int) (w : World) : Calls Tryz.prog 41 #[.int .i64 e] w fun r w' => r = .returned (.int .i64 e) ∧ w' = w := by
 go_enter Tryz.func41, Tryz.ntmps41
 go_wp2_with fail
 go_ret
 exact ⟨rfl, rfl⟩
theorem kn_at (g : Int) (w : World) : Calls Tryz.prog 72 #[.int .i64 g] w fun r w' => r = .returned (.agg #[.int .i64 g, .int .i64 0, .string ⟨#[97]⟩, .int .i64 1, .int .i64 0]) ∧ Below w.heap.size w w' := by
 go_enter Tryz.func72, Tryz.ntmps72
 go_wp2_with fail
 have hx := heap_alloc_new w (.cells #[.int .i64 g, .int .i64 0, .string ⟨#[97]⟩, .int .i64 1, .int .i64 0] 43)
 have q0 := cell_of_row _ _ 0 _ _ _ hx
 have q1 := cell_of_row _ _ 1 _ _ _ hx
 have q2 := cell_of_row _ _ 2 _ _ _ hx
 have q3 := cell_of_row _ _ 3 _ _ _ hx
 have q4 := cell_of_row _ _ 4 _ _ _ hx
 refine bodyPost_ret ?_ rfl ⟨rfl, below_new _ _⟩
 simp [results, Tryz.results72, go_sem, q0, q1, q2, q3, q4]
theorem kn_Empty2 (w : World) : Calls Tryz.prog 71 #[.int .i64 2] w fun e w' => e = .returned (.tuple #[.agg #[.int .i64 2, .int .i64 0, .slice none 0 0], .int .i64 0]) ∧ Below w.heap.size w w' := (kn_Empty 2 w).mono fun _ _ ⟨h1, h2⟩ => ⟨h1.trans (by rw [if_pos (by decide), if_pos (by decide)]), h2⟩
theorem kn_KindQ (w : World) : Calls Tryz.prog 73 #[.string ⟨#[113, 117, 101, 117, 101]⟩] w fun e w' => e = .returned (.tuple #[.int .i64 4, .bool true]) ∧ Below w.heap.size w w' := (kn_Kind _ w).mono fun _ _ ⟨h1, h2⟩ => ⟨h1.trans (by rw [fk]; rfl), h2⟩
theorem kn_Word2 (w : World) : Calls Tryz.prog 74 #[.int .i64 2] w fun e w' => e = .returned (.string ⟨#[115, 101, 116]⟩) ∧ Below w.heap.size w w' := (kn_Word 2 w).mono fun _ _ ⟨h1, h2⟩ => ⟨h1.trans (by rw [fw]), h2⟩
theorem kn_DoWord6 (w : World) : Calls Tryz.prog 75 #[.int .i64 6] w fun e w' => e = .returned (.string ⟨#[112, 111, 112]⟩) ∧ Below w.heap.size w w' := (kn_DoWord 6 w).mono fun _ _ ⟨h1, h2⟩ => ⟨h1.trans (by rw [fd]), h2⟩
theorem kn_ap (L R : List Ev) (k' m' er : Int) (a : Option Addr) (c : Nat) (s : Sv) (ce pk pd : Int) (pt : ByteArray) (hce : checkK [] pk tK pd 0 pt = ce) (hr : applyG 2 0 L s ce pk pd 0 pt = (k', m', R, er)) (hL : L.length ≤ 1000) (hz : ∀ e ∈ L, e.1.l.size ≤ 9223372036854775807) (hs : s.l.size ≤ 9223372036854775807) (w : World) (hG : Glob w) (hl : CellsAt w a (elsV L)) (hnc : L.length ≤ c) :
 Calls Tryz.prog 34 #[.agg #[.int .i64 2, .int .i64 0, .slice a L.length c], .agg #[.int .i64 s.g, .int .i64 s.r, .string s.l, .int .i64 s.n, .int .i64 s.i], .agg #[.slice none 0 0, .int .i64 pk, .string tK, .int .i64 pd, .int .i64 0, .string pt]] w fun e w' =>
  ∃ (a' : Option Addr) (c' : Nat), e = .returned (.tuple #[.agg #[.int .i64 k', .int .i64 m', .slice a' R.length c'], .int .i64 er]) ∧ CellsAt w' a' (elsV R) ∧ R.length ≤ c' ∧ (∀ ad, a' = some ad → w.heap.size ≤ ad.block) ∧ Below w.heap.size w w' ∧ (bringsG pd = true → w'.ownsRow w.heap.size 53 6 (.slice a' R.length c') R.length (elsV R)) := by
 have h := kn_ApplyO 2 0 L a L.length c s [] pk tK pd 0 pt none 0 0 w hl rfl hnc (by omega) hz hs (CellsAt.nil _ _) rfl (by simp) (by decide) hG
 rw [hce, hr] at h
 refine h.mono ?_
 rintro e w' ⟨a', n, c', rfl, h1, h2, h3, h4, h5, h6⟩
 simp only at h1 h2 h6 ⊢
 subst h2
 exact ⟨a', c', rfl, h1, h3, h4, h5, h6⟩
theorem kn_th (a1 : Option Addr) (c1 : Nat) (a2 : Option Addr) (c2 : Nat) (a3 : Option Addr) (c3 : Nat) (w : World) (h1 : CellsAt w a1 (elsV [(sA 1, tX)])) (h2 : CellsAt w a2 (elsV [(sA 2, tY)])) (h3 : CellsAt w a3 (elsV [(sA 1, tX), (sA 2, tY)])) :
 Calls Tryz.prog 45 #[.agg #[.int .i64 2, .int .i64 0, .slice a1 1 c1], .agg #[.int .i64 2, .int .i64 0, .slice a2 1 c2], .agg #[.int .i64 2, .int .i64 0, .slice a3 2 c3]] w fun e w' =>
  ∃ (a' : Option Addr) (c' : Nat), e = .returned (.tuple #[.agg #[.int .i64 2, .int .i64 0, .slice a' 1 c'], .int .i64 0]) ∧ CellsAt w' a' (elsV [(sA 2, tY)]) ∧ 1 ≤ c' ∧ (∀ ad, a' = some ad → w.heap.size ≤ ad.block) ∧ Below w.heap.size w w' := by
 have h := kn_Three 2 0 [(sA 1, tX)] a1 1 c1 2 0 [(sA 2, tY)] a2 1 c2 2 0 [(sA 1, tX), (sA 2, tY)] a3 2 c3 w h1 h2 h3 rfl rfl rfl (by omega) (by omega) (by omega) (by intro e he; simp at he; subst he; decide) (by intro e he; simp at he; subst he; decide) (by intro e he; simp at he; rcases he with rfl | rfl <;> decide)
 rw [ft] at h
 refine h.mono ?_
 rintro e w' ⟨a', n, c', rfl, h1, h2, h3, h4, h5⟩
 simp only at h1 h2 ⊢
 subst h2
 exact ⟨a', c', rfl, h1, h3, h4, h5⟩
theorem kn_sh (a : Option Addr) (c : Nat) (w : World) (h1 : CellsAt w a (elsV [(sA 1, tX), (sA 2, tY)])) :
 Calls Tryz.prog 35 #[.agg #[.int .i64 2, .int .i64 0, .slice a 2 c]] w fun e w' =>
  ∃ (a' : Option Addr) (c' : Nat), e = .returned (.tuple #[.int .i64 0, .slice a' 2 c', .int .i64 0]) ∧ CellsAt w' a' (txV [tX, tY]) ∧ (∀ ad, a' = some ad → w.heap.size ≤ ad.block) ∧ Below w.heap.size w w' := by
 refine (kn_Show 2 0 [(sA 1, tX), (sA 2, tY)] a 2 c w h1 rfl (by omega) (by intro e he; simp at he; rcases he with rfl | rfl <;> decide)).mono ?_
 rintro e w' ⟨⟨h, _⟩ | ⟨_, a', n, c', rfl, hn, hc, hf⟩, hb⟩
 · rw [fv2] at h; cases h
 · rw [fs] at hn hc
   subst hn
   exact ⟨a', c', rfl, hc, hf, hb⟩
theorem kn_sm (a1 : Option Addr) (c1 : Nat) (a2 : Option Addr) (c2 : Nat) (w : World) (h1 : CellsAt w a1 (elsV [(sA 2, tY)])) (h2 : CellsAt w a2 (elsV [(sA 2, tY)])) :
 Calls Tryz.prog 40 #[.agg #[.int .i64 2, .int .i64 0, .slice a1 1 c1], .agg #[.int .i64 2, .int .i64 0, .slice a2 1 c2]] w fun e w' => e = .returned (.bool true) ∧ Below w.heap.size w w' :=
 (kr_Same 2 0 [(sA 2, tY)] a1 1 c1 2 0 [(sA 2, tY)] a2 1 c2 w h1 h2 rfl rfl (by decide)).mono fun _ _ ⟨h, hb⟩ => ⟨h.trans (by unfold sameG; rw [decide_eq_true rfl, decide_eq_true rfl, decide_eq_true rfl]; rfl), hb⟩
theorem kn_stx (a1 : Option Addr) (c1 : Nat) (a2 : Option Addr) (c2 : Nat) (w : World) (h1 : CellsAt w a1 (txV [tX, tY])) (h2 : CellsAt w a2 (txV [tX, tY])) :
 Calls Tryz.prog 43 #[.slice a1 2 c1, .slice a2 2 c2] w fun e w' => e = .returned (.bool true) ∧ Below w.heap.size w w' :=
 (ref9_SameTexts [tX, tY] [tX, tY] a1 a2 2 2 c1 c2 w h1 h2 rfl rfl (by decide)).mono fun _ _ ⟨h, hb⟩ => ⟨h.trans (by rw [decide_eq_true rfl]), hb⟩
theorem kn_chk (w : World) (hG : Glob w) : Calls Tryz.prog 76 #[.agg #[.slice none 0 0, .int .i64 2, .string ⟨#[107]⟩, .int .i64 1, .int .i64 0, .string ⟨#[]⟩]] w fun e w' => e = .returned (.int .i64 7) ∧ Below w.heap.size w w' :=
 (kn_Check [] 2 tK 1 0 ⟨#[]⟩ none 0 0 w (CellsAt.nil _ _) rfl (by simp) (by decide) hG).mono fun _ _ ⟨h, hb⟩ => ⟨h.trans (by rw [fc6]), hb⟩
theorem ne_cells {w : World} {a : Option Addr} {e : Ev} {l : List Ev} {b : Nat} {t : TypeId} {g : Nat × Nat} (h : CellsAt w a (elsV (e :: l))) (hb : w.heap[b]? = some (.cells #[.int .i64 0, .int .i64 0, .slice none 0 0] t g)) : ∀ ad, a = some ad → ad.block ≠ b := fun ad had hbe => by
 obtain ⟨b', off, e1, hc⟩ := h 2 (by simp [elsV, elV])
 rw [e1] at had
 cases had
 simp only at hbe
 subst hbe
 unfold World.cell? at hc
 simp only [hb] at hc
 rcases Nat.eq_zero_or_pos off with h0 | h0
 · subst h0
   simp [elsV, elV] at hc
 · rw [Array.getElem?_eq_none (by simp; omega)] at hc
   cases hc
set_option maxRecDepth 100000 in
set_option maxHeartbeats 16000000 in
theorem known_09 (w : World) (hG : Glob w) : Calls Tryz.prog 32 #[] w fun e w' => e = .returned (.bool true) ∧ Below w.heap.size w w' := by
 have G := Lib.hid hG
 clear hG
 have ET := Lib.hid elT
 have HC : Hid (Chain [w] w) := Lib.hid (Chain.one w)
 go_enter Tryz.func32, Tryz.ntmps32
 go_wp2_with fail
 refine (kn_Empty2 _).mono ?_
 rintro e w1 ⟨rfl, hb⟩
 replace HC := Lib.hid (HC.out.push hb)
 clear hb
 have LW1 : Hid (w.heap.size ≤ w1.heap.size) := Lib.hid (HC.out.to w (by simp)).size
 go_upto_region 2 with (fail)
 obtain ⟨z, hz⟩ : ∃ c, w1.heap.size = c := ⟨_, rfl⟩
 try rw [hz]
 obtain ⟨w2, hw2⟩ : ∃ X, allocs w1 [.cells #[.int .i64 2, .int .i64 0, .slice none 0 0] 79] = X := ⟨_, rfl⟩
 rw [show w1.alloc (.cells #[.int .i64 2, .int .i64 0, .slice none 0 0] 79) = w2 from hw2]
 have hb : Below w1.heap.size w1 w2 := by rw [← hw2]; exact allocs_below _ _
 have HV : Hid (w2.heap[z]? = some (.cells #[.int .i64 2, .int .i64 0, .slice none 0 0] 79 (0, 0))) := Lib.hid (by have := allocs_get [.cells #[.int .i64 2, .int .i64 0, .slice none 0 0] 79] w1 0 _ rfl; rw [hw2, hz] at this; exact this)
 have Sz : Hid (w1.heap.size = z) := Lib.hid hz
 replace HC := Lib.hid (HC.out.push hb)
 clear hb hw2 hz
 have ZB : Hid (z < w2.heap.size ∧ w.heap.size ≤ w2.heap.size ∧ w.heap.size ≤ z) := Lib.hid ⟨(Array.getElem?_eq_some_iff.1 HV.out).1, (HC.out.to w (by simp)).size, by have h1 := LW1.out; have h2 := Sz.out; omega⟩
 have G2 := Lib.hid (G.out.below (HC.out.to w (by simp)))
 refine relG_start (slots := [26, 27, 28, 29, 25, 30, 31, 3]) (so := [7]) (by kernel_rfl) (by kernel_rfl) (by rfl) ?_
 refine relG_pure (i := 0) (o := ⟨some 26, _, _, _, _, _⟩) (v := ?v1) [] [1] rfl rfl (by kernel_rfl) (by kernel_rfl) (fun t w1 hB hf hbf => ?y1) ?n1
 case y1 =>
  simp only [BasF] at hbf
  clear hf
  obtain ⟨⟨b1, k1⟩, _⟩ := hbf
  have hv := boxStays HV.out hB
  have k0 := cell_of_row _ z 0 _ _ _ hv
  have k1 := cell_of_row _ z 1 _ _ _ hv
  have k2 := cell_of_row _ z 2 _ _ _ hv
  clear hv
  refine Or.inl ⟨wanted_none rfl, ?_⟩
  rintro _ rfl
  go_simp <;> with_reducible rfl
 refine relG_call (i := 1) (o := ⟨some 27, _, _, _, _, _⟩) ((fun v _ => v = .agg #[.int .i64 1, .int .i64 0, .string ⟨#[97]⟩, .int .i64 1, .int .i64 0])) [] [] rfl rfl (by kernel_rfl) (by kernel_rfl) ((fun _ _ _ h _ => h)) ?_ ?_
 · intro t w1 hB hf hbf K hK
   clear hf
   clear hbf
   have hv := boxStays HV.out hB
   have k0 := cell_of_row _ z 0 _ _ _ hv
   have k1 := cell_of_row _ z 1 _ _ _ hv
   have k2 := cell_of_row _ z 2 _ _ _ hv
   clear hv
   refine ⟨wanted_none rfl, ?_⟩
   go_simp
   refine (kn_at 1 w1).mono ?_
   rintro e w2 ⟨rfl, hb⟩
   exact hK.out _ w2 (rfl) hb
 refine relG_pure (i := 2) (o := ⟨some 28, _, _, _, _, _⟩) (v := ?v2) [] [] rfl rfl (by kernel_rfl) (by kernel_rfl) (fun t w1 hB hf hbf => ?y2) ?n2
 case y2 =>
  clear hf
  clear hbf
  have hv := boxStays HV.out hB
  have k0 := cell_of_row _ z 0 _ _ _ hv
  have k1 := cell_of_row _ z 1 _ _ _ hv
  have k2 := cell_of_row _ z 2 _ _ _ hv
  clear hv
  refine Or.inl ⟨wanted_none rfl, ?_⟩
  rintro _ rfl
  go_simp <;> with_reducible rfl
 refine relG_call (i := 3) (o := ⟨some 29, _, _, _, _, _⟩) ((fun v w' => ∃ (a : Option Addr) (c : Nat), v = .tuple #[.agg #[.int .i64 2, .int .i64 0, .slice a 1 c], .int .i64 0] ∧ CellsAt w' a (elsV [(sA 1, tX)]) ∧ 1 ≤ c ∧ (∀ ad, a = some ad → w2.heap.size ≤ ad.block) ∧ w'.ownsRow w2.heap.size 53 6 (.slice a 1 c) 1 (elsV [(sA 1, tX)]))) [(0, 26, 2), (1, 27, 1), (2, 28, 0)] [] rfl rfl (by kernel_rfl) (by kernel_rfl) ((fun v w' w'' h hb => by obtain ⟨a, c, e1, e2, e3, e4, e5⟩ := h; exact ⟨a, c, e1, e2.below hb rfl, e3, e4, own_later e5 hb (Nat.le_refl _)⟩)) ?_ ?_
 · intro t w1 hB hf hbf K hK
   simp only [DepF, List.getD_cons_zero, List.getD_cons_succ] at hf
   obtain ⟨⟨_, ⟨e26, i26⟩, rfl⟩, ⟨_, ⟨e27, i27⟩, rfl⟩, ⟨_, ⟨e28, i28⟩, rfl⟩, _⟩ := hf
   clear hbf
   have hv := boxStays HV.out hB
   have k0 := cell_of_row _ z 0 _ _ _ hv
   have k1 := cell_of_row _ z 1 _ _ _ hv
   have k2 := cell_of_row _ z 2 _ _ _ hv
   clear hv
   refine ⟨wanted_none rfl, ?_⟩
   go_simp
   refine (kn_ap [] [(sA 1, tX)] 2 0 0 none 0 (sA 1) 0 2 2 tX fc1 fa1 (by simp) (by intro e he; simp at he; try (rcases he with rfl | rfl <;> decide); try (subst he; decide)) (by decide) w1 (G2.out.below hB) (CellsAt.nil _ _) (Nat.le_refl _)).mono ?_
   rintro e w2 ⟨a', c', rfl, h1, h2, h4, hb, h5⟩
   exact hK.out _ w2 (⟨a', c', rfl, h1, h2, fun ad had => Nat.le_trans hB.size (h4 ad had), own_mono (h5 rfl) hB.size⟩) hb
 refine relG_call (i := 4) (o := ⟨some 25, _, _, _, _, _⟩) ((fun v w' => ∃ (a : Option Addr) (c : Nat), v = .tuple #[.agg #[.int .i64 2, .int .i64 0, .slice a 1 c], .int .i64 0] ∧ CellsAt w' a (elsV [(sA 1, tX)]) ∧ 1 ≤ c ∧ (∀ ad, a = some ad → w2.heap.size ≤ ad.block) ∧ w'.ownsRow w2.heap.size 53 6 (.slice a 1 c) 1 (elsV [(sA 1, tX)]))) [(3, 29, 0)] [] rfl rfl (by kernel_rfl) (by kernel_rfl) ((fun v w' w'' h hb => by obtain ⟨a, c, e1, e2, e3, e4, e5⟩ := h; exact ⟨a, c, e1, e2.below hb rfl, e3, e4, own_later e5 hb (Nat.le_refl _)⟩)) ?_ ?_
 · intro t w1 hB hf hbf K hK
   simp only [DepF, List.getD_cons_zero] at hf
   obtain ⟨⟨_, ⟨e29, i29⟩, ⟨a', c', rfl, h1, h2, h4, h5⟩⟩, _⟩ := hf
   clear hbf
   have hv := boxStays HV.out hB
   have k0 := cell_of_row _ z 0 _ _ _ hv
   have k1 := cell_of_row _ z 1 _ _ _ hv
   have k2 := cell_of_row _ z 2 _ _ _ hv
   clear hv
   refine ⟨wanted_none rfl, ?_⟩
   go_simp
   exact hK.out _ _ (⟨a', c', rfl, h1, h2, h4, h5⟩) (Below.refl _ _)
 refine relG_call (i := 5) (o := ⟨some 30, _, _, _, _, _⟩) ((fun v w' => ∃ (a : Option Addr) (c : Nat), v = .agg #[.int .i64 2, .int .i64 0, .slice a 1 c] ∧ CellsAt w' a (elsV [(sA 1, tX)]) ∧ 1 ≤ c ∧ (∀ ad, a = some ad → w2.heap.size ≤ ad.block) ∧ w'.ownsRow w2.heap.size 53 6 (.slice a 1 c) 1 (elsV [(sA 1, tX)]))) [(4, 25, 0)] [] rfl rfl (by kernel_rfl) (by kernel_rfl) ((fun v w' w'' h hb => by obtain ⟨a, c, e1, e2, e3, e4, e5⟩ := h; exact ⟨a, c, e1, e2.below hb rfl, e3, e4, own_later e5 hb (Nat.le_refl _)⟩)) ?_ ?_
 · intro t w1 hB hf hbf K hK
   simp only [DepF, List.getD_cons_zero] at hf
   obtain ⟨⟨_, ⟨e25, i25⟩, ⟨a', c', rfl, h1, h2, h4, h5⟩⟩, _⟩ := hf
   clear hbf
   have hv := boxStays HV.out hB
   have k0 := cell_of_row _ z 0 _ _ _ hv
   have k1 := cell_of_row _ z 1 _ _ _ hv
   have k2 := cell_of_row _ z 2 _ _ _ hv
   clear hv
   refine ⟨wanted_none rfl, ?_⟩
   go_simp
   exact hK.out _ _ (⟨a', c', rfl, h1, h2, h4, h5⟩) (Below.refl _ _)
 refine relG_pure (i := 6) (o := ⟨some 31, _, _, _, _, _⟩) (v := ?v3) [(4, 25, 1)] [] rfl rfl (by kernel_rfl) (by kernel_rfl) (fun t w1 hB hf hbf => ?y3) ?n3
 case y3 =>
  simp only [DepF, List.getD_cons_zero, List.getD_cons_succ] at hf
  obtain ⟨⟨_, ⟨e25, i25⟩, ⟨a', c', rfl, h1, h2, h4, h5⟩⟩, _⟩ := hf
  clear hbf
  have hv := boxStays HV.out hB
  have k0 := cell_of_row _ z 0 _ _ _ hv
  have k1 := cell_of_row _ z 1 _ _ _ hv
  have k2 := cell_of_row _ z 2 _ _ _ hv
  clear hv
  refine Or.inl ⟨wanted_none rfl, ?_⟩
  rintro _ rfl
  go_simp <;> with_reducible rfl
 refine relG_skip 7 rfl (by rfl) ?_ (by kernel_rfl)
 refine relG_pure (i := 8) (o := ⟨some 3, _, _, _, _, _⟩) (v := ?v4) [(6, 31, 1)] [] rfl rfl (by kernel_rfl) (by kernel_rfl) (fun t w1 hB hf hbf => ?y4) ?n4
 case y4 =>
  simp only [DepF, List.getD_cons_zero, List.getD_cons_succ] at hf
  obtain ⟨⟨_, ⟨e31, i31⟩, rfl⟩, _⟩ := hf
  clear hbf
  have hv := boxStays HV.out hB
  have k0 := cell_of_row _ z 0 _ _ _ hv
  have k1 := cell_of_row _ z 1 _ _ _ hv
  have k2 := cell_of_row _ z 2 _ _ _ hv
  clear hv
  refine Or.inl ⟨wanted_none rfl, ?_⟩
  rintro _ rfl
  go_simp <;> with_reducible rfl
 refine relG_one 7 (z) 30 5 [(0, 26, 8), (1, 27, 7), (2, 28, 6), (3, 29, 5), (4, 25, 4), (5, 30, 3), (6, 31, 2), (8, 3, 0)] [(0, 26, 8), (1, 27, 7), (2, 28, 6), (3, 29, 5), (4, 25, 4), (5, 30, 3)] (by kernel_rfl) rfl (by kernel_rfl) (by kernel_rfl) (by kernel_rfl) (by kernel_rfl) ?_ (fun f wE hB hf => ?_)
 · intro f w1 hB hf K hK
   simp only [FinF, List.getD_cons_zero, List.getD_cons_succ] at hf
   obtain ⟨⟨_, e26, rfl⟩, ⟨_, e27, rfl⟩, ⟨_, e28, rfl⟩, ⟨_, e29, ⟨a', c', rfl, h1, h2, h4, h5⟩⟩, ⟨_, e25, ⟨a', c', rfl, h1, h2, h4, h5⟩⟩, ⟨_, e30, ⟨a3, c3, rfl, h1, h2, h4, h5⟩⟩, _⟩ := hf
   have hv := boxStays HV.out hB
   have k0 := cell_of_row _ z 0 _ _ _ hv
   have k1 := cell_of_row _ z 1 _ _ _ hv
   have k2 := cell_of_row _ z 2 _ _ _ hv
   clear hv
   refine sto_row (i := 7) (b := z) (cells := #[.int .i64 2, .int .i64 0, .slice a3 1 c3]) 79 1 30 _ _ rfl rfl rfl rfl (by rfl) (by rfl) (by rfl) (by rfl) e30 (boxStays HV.out hB) (by kernel_rfl) rfl ((by simp [Value.oneCell'])) hK
 simp only [FinF, List.getD_cons_zero, List.getD_cons_succ] at hf
 obtain ⟨⟨_, e26, rfl⟩, ⟨_, e27, rfl⟩, ⟨_, e28, rfl⟩, ⟨_, e29, ⟨a', c', rfl, h1, h2, h4, h5⟩⟩, ⟨_, e25, ⟨a', c', rfl, h1, h2, h4, h5⟩⟩, ⟨_, e30, ⟨a3, c3, rfl, h1, h2, h4, h5⟩⟩, ⟨_, e31, rfl⟩, ⟨_, e3, rfl⟩, _⟩ := hf
 simp only [Value.cells, regT, List.foldl_cons, List.foldl_nil, List.setIfInBounds_toArray, List.set_cons_zero, List.set_cons_succ, e26, e27, e28, e29, e25, e30, e31, e3]
 clear e26 e27 e28 e29 e25 e30 e31 e3
 have hbr := boxStays HV.out hB
 have C3 : Hid (CellsAt (wE.setRow z #[.int .i64 2, .int .i64 0, .slice a3 1 c3]) a3 (elsV [(sA 1, tX)])) := Lib.hid (cells_grown h1 (grown_setRow wE z #[.int .i64 2, .int .i64 0, .slice a3 1 c3]) (fun ad had => by have e1 := h4 ad had; have e2 := ZB.out.1; omega))
 have X3 := Lib.hid (setRow_heap _ _ _ #[.int .i64 2, .int .i64 0, .slice a3 1 c3] _ _ hbr)
 have O3 := Lib.hid (own_grown h5 (grown_setRow wE z #[.int .i64 2, .int .i64 0, .slice a3 1 c3]) (fun k' hk' e => by have e1 := (h5.lt k' hk').1; have e2 := ZB.out.1; have e3 := Option.some.inj e; omega))
 have F3 := Lib.hid h4
 have N3 := Lib.hid h2
 have QC : Hid (Below z w2 (wE.setRow z #[.int .i64 2, .int .i64 0, .slice a3 1 c3])) := Lib.hid (below_setRow (hB.mono (Nat.le_of_lt ZB.out.1)) (Nat.le_refl _) #[.int .i64 2, .int .i64 0, .slice a3 1 c3])
 clear h1 h2 h4 h5 hbr hB
 generalize wE.setRow z #[.int .i64 2, .int .i64 0, .slice a3 1 c3] = w3 at *
 go_upto_region 3 with (fail)
 have B3 : Hid (Below w.heap.size w w3) := Lib.hid ((HC.out.to w (by simp)).trans (QC.out.mono ZB.out.2.2))
 have G3 := Lib.hid (G.out.below B3.out)
 have S3 : Hid (w2.heap.size ≤ w3.heap.size) := Lib.hid QC.out.size
 clear QC HC HV G2 Sz
 have HC : Hid (Chain [w3] w3) := Lib.hid (Chain.one w3)
 refine relG_start (slots := [33, 34, 35, 36, 32, 37, 38, 4, 5]) (so := [8]) (by kernel_rfl) (by kernel_rfl) (by rfl) ?_
 refine relG_pure (i := 0) (o := ⟨some 33, _, _, _, _, _⟩) (v := ?v5) [] [1] rfl rfl (by kernel_rfl) (by kernel_rfl) (fun t w1 hB hf hbf => ?y5) ?n5
 case y5 =>
  simp only [BasF] at hbf
  clear hf
  obtain ⟨⟨b1, k1⟩, _⟩ := hbf
  have hv := boxStays X3.out hB
  have k0 := cell_of_row _ z 0 _ _ _ hv
  have k1 := cell_of_row _ z 1 _ _ _ hv
  have k2 := cell_of_row _ z 2 _ _ _ hv
  clear hv
  refine Or.inl ⟨wanted_none rfl, ?_⟩
  rintro _ rfl
  go_simp <;> with_reducible rfl
 refine relG_call (i := 1) (o := ⟨some 34, _, _, _, _, _⟩) ((fun v _ => v = .agg #[.int .i64 2, .int .i64 0, .string ⟨#[97]⟩, .int .i64 1, .int .i64 0])) [] [] rfl rfl (by kernel_rfl) (by kernel_rfl) ((fun _ _ _ h _ => h)) ?_ ?_
 · intro t w1 hB hf hbf K hK
   clear hf
   clear hbf
   have hv := boxStays X3.out hB
   have k0 := cell_of_row _ z 0 _ _ _ hv
   have k1 := cell_of_row _ z 1 _ _ _ hv
   have k2 := cell_of_row _ z 2 _ _ _ hv
   clear hv
   refine ⟨wanted_none rfl, ?_⟩
   go_simp
   refine (kn_at 2 w1).mono ?_
   rintro e w2 ⟨rfl, hb⟩
   exact hK.out _ w2 (rfl) hb
 refine relG_pure (i := 2) (o := ⟨some 35, _, _, _, _, _⟩) (v := ?v6) [] [] rfl rfl (by kernel_rfl) (by kernel_rfl) (fun t w1 hB hf hbf => ?y6) ?n6
 case y6 =>
  clear hf
  clear hbf
  have hv := boxStays X3.out hB
  have k0 := cell_of_row _ z 0 _ _ _ hv
  have k1 := cell_of_row _ z 1 _ _ _ hv
  have k2 := cell_of_row _ z 2 _ _ _ hv
  clear hv
  refine Or.inl ⟨wanted_none rfl, ?_⟩
  rintro _ rfl
  go_simp <;> with_reducible rfl
 refine relG_call (i := 3) (o := ⟨some 36, _, _, _, _, _⟩) ((fun v w' => ∃ (a : Option Addr) (c : Nat), v = .tuple #[.agg #[.int .i64 2, .int .i64 0, .slice a 2 c], .int .i64 0] ∧ CellsAt w' a (elsV [(sA 1, tX), (sA 2, tY)]) ∧ 2 ≤ c ∧ (∀ ad, a = some ad → w3.heap.size ≤ ad.block))) [(0, 33, 2), (1, 34, 1), (2, 35, 0)] [] rfl rfl (by kernel_rfl) (by kernel_rfl) ((fun v w' w'' h hb => by obtain ⟨a, c, e1, e2, e3, e4⟩ := h; exact ⟨a, c, e1, e2.below hb rfl, e3, e4⟩)) ?_ ?_
 · intro t w1 hB hf hbf K hK
   simp only [DepF, List.getD_cons_zero, List.getD_cons_succ] at hf
   obtain ⟨⟨_, ⟨e33, i33⟩, rfl⟩, ⟨_, ⟨e34, i34⟩, rfl⟩, ⟨_, ⟨e35, i35⟩, rfl⟩, _⟩ := hf
   clear hbf
   have hv := boxStays X3.out hB
   have k0 := cell_of_row _ z 0 _ _ _ hv
   have k1 := cell_of_row _ z 1 _ _ _ hv
   have k2 := cell_of_row _ z 2 _ _ _ hv
   clear hv
   refine ⟨wanted_none rfl, ?_⟩
   go_simp
   refine (kn_ap [(sA 1, tX)] [(sA 1, tX), (sA 2, tY)] 2 0 0 a3 c3 (sA 2) 0 2 2 tY fc2 fa2 (by simp) (by intro e he; simp at he; try (rcases he with rfl | rfl <;> decide); try (subst he; decide)) (by decide) w1 (G3.out.below hB) (C3.out.below hB rfl) N3.out).mono ?_
   rintro e w2 ⟨a', c', rfl, h1, h2, h4, hb, h5⟩
   exact hK.out _ w2 (⟨a', c', rfl, h1, h2, fun ad had => Nat.le_trans hB.size (h4 ad had)⟩) hb
 refine relG_call (i := 4) (o := ⟨some 32, _, _, _, _, _⟩) ((fun v w' => ∃ (a : Option Addr) (c : Nat), v = .tuple #[.agg #[.int .i64 2, .int .i64 0, .slice a 2 c], .int .i64 0] ∧ CellsAt w' a (elsV [(sA 1, tX), (sA 2, tY)]) ∧ 2 ≤ c ∧ (∀ ad, a = some ad → w3.heap.size ≤ ad.block))) [(3, 36, 0)] [] rfl rfl (by kernel_rfl) (by kernel_rfl) ((fun v w' w'' h hb => by obtain ⟨a, c, e1, e2, e3, e4⟩ := h; exact ⟨a, c, e1, e2.below hb rfl, e3, e4⟩)) ?_ ?_
 · intro t w1 hB hf hbf K hK
   simp only [DepF, List.getD_cons_zero] at hf
   obtain ⟨⟨_, ⟨e36, i36⟩, ⟨a', c', rfl, h1, h2, h4⟩⟩, _⟩ := hf
   clear hbf
   have hv := boxStays X3.out hB
   have k0 := cell_of_row _ z 0 _ _ _ hv
   have k1 := cell_of_row _ z 1 _ _ _ hv
   have k2 := cell_of_row _ z 2 _ _ _ hv
   clear hv
   refine ⟨wanted_none rfl, ?_⟩
   go_simp
   exact hK.out _ _ (⟨a', c', rfl, h1, h2, h4⟩) (Below.refl _ _)
 refine relG_call (i := 5) (o := ⟨some 37, _, _, _, _, _⟩) ((fun v w' => ∃ (a : Option Addr) (c : Nat), v = .agg #[.int .i64 2, .int .i64 0, .slice a 2 c] ∧ CellsAt w' a (elsV [(sA 1, tX), (sA 2, tY)]) ∧ 2 ≤ c ∧ (∀ ad, a = some ad → w3.heap.size ≤ ad.block))) [(4, 32, 0)] [] rfl rfl (by kernel_rfl) (by kernel_rfl) ((fun v w' w'' h hb => by obtain ⟨a, c, e1, e2, e3, e4⟩ := h; exact ⟨a, c, e1, e2.below hb rfl, e3, e4⟩)) ?_ ?_
 · intro t w1 hB hf hbf K hK
   simp only [DepF, List.getD_cons_zero] at hf
   obtain ⟨⟨_, ⟨e32, i32⟩, ⟨a', c', rfl, h1, h2, h4⟩⟩, _⟩ := hf
   clear hbf
   have hv := boxStays X3.out hB
   have k0 := cell_of_row _ z 0 _ _ _ hv
   have k1 := cell_of_row _ z 1 _ _ _ hv
   have k2 := cell_of_row _ z 2 _ _ _ hv
   clear hv
   refine ⟨wanted_none rfl, ?_⟩
   go_simp
   exact hK.out _ _ (⟨a', c', rfl, h1, h2, h4⟩) (Below.refl _ _)
 refine relG_pure (i := 6) (o := ⟨some 38, _, _, _, _, _⟩) (v := ?v7) [(4, 32, 1)] [] rfl rfl (by kernel_rfl) (by kernel_rfl) (fun t w1 hB hf hbf => ?y7) ?n7
 case y7 =>
  simp only [DepF, List.getD_cons_zero, List.getD_cons_succ] at hf
  obtain ⟨⟨_, ⟨e32, i32⟩, ⟨a', c', rfl, h1, h2, h4⟩⟩, _⟩ := hf
  clear hbf
  have hv := boxStays X3.out hB
  have k0 := cell_of_row _ z 0 _ _ _ hv
  have k1 := cell_of_row _ z 1 _ _ _ hv
  have k2 := cell_of_row _ z 2 _ _ _ hv
  clear hv
  refine Or.inl ⟨wanted_none rfl, ?_⟩
  rintro _ rfl
  go_simp <;> with_reducible rfl
 refine relG_call (i := 7) (o := ⟨some 4, _, _, _, _, _⟩) ((fun v w' => ∃ b, v = .pointer (some ⟨b, 0, none⟩) ∧ w3.heap.size ≤ b ∧ w'.heap[b]? = some (.cells #[.int .i64 0, .int .i64 0, .slice none 0 0] 79 (0, 0)))) [] [] rfl rfl (by kernel_rfl) (by kernel_rfl) ((fun v w' w'' h hb => by obtain ⟨b, e1, e2, e3⟩ := h; exact ⟨b, e1, e2, boxStays e3 hb⟩)) ?_ ?_
 · intro t w1 hB hf hbf K hK
   clear hf
   clear hbf
   have hv := boxStays X3.out hB
   have k0 := cell_of_row _ z 0 _ _ _ hv
   have k1 := cell_of_row _ z 1 _ _ _ hv
   have k2 := cell_of_row _ z 2 _ _ _ hv
   clear hv
   refine ⟨wanted_none rfl, ?_⟩
   go_simp
   exact hK.out _ _ (⟨_, rfl, hB.size, heap_alloc_new _ _⟩) (below_new _ _)
 refine relG_skip 8 rfl (by rfl) ?_ (by kernel_rfl)
 refine relG_pure (i := 9) (o := ⟨some 5, _, _, _, _, _⟩) (v := ?v8) [(6, 38, 2)] [] rfl rfl (by kernel_rfl) (by kernel_rfl) (fun t w1 hB hf hbf => ?y8) ?n8
 case y8 =>
  simp only [DepF, List.getD_cons_zero, List.getD_cons_succ] at hf
  obtain ⟨⟨_, ⟨e38, i38⟩, rfl⟩, _⟩ := hf
  clear hbf
  have hv := boxStays X3.out hB
  have k0 := cell_of_row _ z 0 _ _ _ hv
  have k1 := cell_of_row _ z 1 _ _ _ hv
  have k2 := cell_of_row _ z 2 _ _ _ hv
  clear hv
  refine Or.inl ⟨wanted_none rfl, ?_⟩
  rintro _ rfl
  go_simp <;> with_reducible rfl
 refine relG_own 8 4 7 37 5 [(0, 33, 9), (1, 34, 8), (2, 35, 7), (3, 36, 6), (4, 32, 5), (5, 37, 4), (6, 38, 3), (7, 4, 2), (9, 5, 0)] [(0, 33, 9), (1, 34, 8), (2, 35, 7), (3, 36, 6), (4, 32, 5), (5, 37, 4), (7, 4, 2)] (by kernel_rfl) rfl (by kernel_rfl) (by kernel_rfl) (by kernel_rfl) (by kernel_rfl) ?_ (fun f wE hB hf => ?_)
 · intro f w1 hB hf K hK
   simp only [FinF, List.getD_cons_zero, List.getD_cons_succ] at hf
   obtain ⟨⟨_, e33, rfl⟩, ⟨_, e34, rfl⟩, ⟨_, e35, rfl⟩, ⟨_, e36, ⟨a', c', rfl, h1, h2, h4⟩⟩, ⟨_, e32, ⟨a', c', rfl, h1, h2, h4⟩⟩, ⟨_, e37, ⟨a4, c4, rfl, h1, h2, h4⟩⟩, ⟨_, e4, ⟨zb4, rfl, hbb, hbr⟩⟩, _⟩ := hf
   have hv := boxStays X3.out hB
   have k0 := cell_of_row _ z 0 _ _ _ hv
   have k1 := cell_of_row _ z 1 _ _ _ hv
   have k2 := cell_of_row _ z 2 _ _ _ hv
   clear hv
   refine sto_own (i := 8) 79 4 37 zb4 (#[.int .i64 2, .int .i64 0, .slice a4 2 c4]) _ _ rfl rfl rfl rfl (by rfl) (by rfl) e4 (by rfl) (by rfl) e37 (hbr) (by kernel_rfl) rfl ((by simp [Value.oneCell'])) hK
 simp only [FinF, List.getD_cons_zero, List.getD_cons_succ] at hf
 obtain ⟨⟨_, e33, rfl⟩, ⟨_, e34, rfl⟩, ⟨_, e35, rfl⟩, ⟨_, e36, ⟨a', c', rfl, h1, h2, h4⟩⟩, ⟨_, e32, ⟨a', c', rfl, h1, h2, h4⟩⟩, ⟨_, e37, ⟨a4, c4, rfl, h1, h2, h4⟩⟩, ⟨_, e38, rfl⟩, ⟨_, e4, ⟨zb4, rfl, hbb, hbr⟩⟩, ⟨_, e5, rfl⟩, _⟩ := hf
 simp only [blkOf, Value.cells, regT, List.foldl_cons, List.foldl_nil, List.setIfInBounds_toArray, List.set_cons_zero, List.set_cons_succ, e33, e34, e35, e36, e32, e37, e38, e4, e5]
 clear e33 e34 e35 e36 e32 e37 e38 e4 e5
 have C4 : Hid (CellsAt (wE.setRow zb4 #[.int .i64 2, .int .i64 0, .slice a4 2 c4]) a4 (elsV [(sA 1, tX), (sA 2, tY)])) := Lib.hid (cells_grown h1 (grown_setRow wE zb4 #[.int .i64 2, .int .i64 0, .slice a4 2 c4]) (ne_cells h1 hbr))
 have X4 := Lib.hid (setRow_heap _ _ _ #[.int .i64 2, .int .i64 0, .slice a4 2 c4] _ _ hbr)
 have F4 := Lib.hid h4
 have N4 := Lib.hid h2
 have E4 := Lib.hid hbb
 have QC : Hid (Below w3.heap.size w3 (wE.setRow zb4 #[.int .i64 2, .int .i64 0, .slice a4 2 c4])) := Lib.hid (below_setRow hB hbb #[.int .i64 2, .int .i64 0, .slice a4 2 c4])
 clear h1 h2 h4 hbr hB hbb
 generalize wE.setRow zb4 #[.int .i64 2, .int .i64 0, .slice a4 2 c4] = w4 at *
 go_upto_region 4 with (fail)
 have hb := QC.out
 replace HC := Lib.hid (HC.out.push hb)
 clear hb
 clear QC
 have S34 : Hid (w3.heap.size ≤ w4.heap.size) := Lib.hid (HC.out.to w3 (by simp)).size
 have G4 := Lib.hid (G3.out.below (HC.out.to w3 (by simp)))
 refine relG_start (slots := [40, 41, 42, 43, 39, 44, 45, 6, 7]) (so := [8]) (by kernel_rfl) (by kernel_rfl) (by rfl) ?_
 refine relG_pure (i := 0) (o := ⟨some 40, _, _, _, _, _⟩) (v := ?v9) [] [4] rfl rfl (by kernel_rfl) (by kernel_rfl) (fun t w1 hB hf hbf => ?y9) ?n9
 case y9 =>
  simp only [BasF] at hbf
  clear hf
  obtain ⟨⟨b4, k4⟩, _⟩ := hbf
  have hv := boxStays X4.out hB
  have k0 := cell_of_row _ zb4 0 _ _ _ hv
  have k1 := cell_of_row _ zb4 1 _ _ _ hv
  have k2 := cell_of_row _ zb4 2 _ _ _ hv
  clear hv
  refine Or.inl ⟨wanted_none rfl, ?_⟩
  rintro _ rfl
  go_simp <;> with_reducible rfl
 refine relG_call (i := 1) (o := ⟨some 41, _, _, _, _, _⟩) ((fun v _ => v = .agg #[.int .i64 3, .int .i64 0, .string ⟨#[97]⟩, .int .i64 1, .int .i64 0])) [] [] rfl rfl (by kernel_rfl) (by kernel_rfl) ((fun _ _ _ h _ => h)) ?_ ?_
 · intro t w1 hB hf hbf K hK
   clear hf
   clear hbf
   have hv := boxStays X4.out hB
   have k0 := cell_of_row _ zb4 0 _ _ _ hv
   have k1 := cell_of_row _ zb4 1 _ _ _ hv
   have k2 := cell_of_row _ zb4 2 _ _ _ hv
   clear hv
   refine ⟨wanted_none rfl, ?_⟩
   go_simp
   refine (kn_at 3 w1).mono ?_
   rintro e w2 ⟨rfl, hb⟩
   exact hK.out _ w2 (rfl) hb
 refine relG_pure (i := 2) (o := ⟨some 42, _, _, _, _, _⟩) (v := ?v10) [] [] rfl rfl (by kernel_rfl) (by kernel_rfl) (fun t w1 hB hf hbf => ?y10) ?n10
 case y10 =>
  clear hf
  clear hbf
  have hv := boxStays X4.out hB
  have k0 := cell_of_row _ zb4 0 _ _ _ hv
  have k1 := cell_of_row _ zb4 1 _ _ _ hv
  have k2 := cell_of_row _ zb4 2 _ _ _ hv
  clear hv
  refine Or.inl ⟨wanted_none rfl, ?_⟩
  rintro _ rfl
  go_simp <;> with_reducible rfl
 refine relG_call (i := 3) (o := ⟨some 43, _, _, _, _, _⟩) ((fun v w' => ∃ (a : Option Addr) (c : Nat), v = .tuple #[.agg #[.int .i64 2, .int .i64 0, .slice a 1 c], .int .i64 0] ∧ CellsAt w' a (elsV [(sA 2, tY)]) ∧ 1 ≤ c ∧ (∀ ad, a = some ad → w4.heap.size ≤ ad.block))) [(0, 40, 2), (1, 41, 1), (2, 42, 0)] [] rfl rfl (by kernel_rfl) (by kernel_rfl) ((fun v w' w'' h hb => by obtain ⟨a, c, e1, e2, e3, e4⟩ := h; exact ⟨a, c, e1, e2.below hb rfl, e3, e4⟩)) ?_ ?_
 · intro t w1 hB hf hbf K hK
   simp only [DepF, List.getD_cons_zero, List.getD_cons_succ] at hf
   obtain ⟨⟨_, ⟨e40, i40⟩, rfl⟩, ⟨_, ⟨e41, i41⟩, rfl⟩, ⟨_, ⟨e42, i42⟩, rfl⟩, _⟩ := hf
   clear hbf
   have hv := boxStays X4.out hB
   have k0 := cell_of_row _ zb4 0 _ _ _ hv
   have k1 := cell_of_row _ zb4 1 _ _ _ hv
   have k2 := cell_of_row _ zb4 2 _ _ _ hv
   clear hv
   refine ⟨wanted_none rfl, ?_⟩
   go_simp
   refine (kn_ap [(sA 1, tX), (sA 2, tY)] [(sA 2, tY)] 2 0 0 a4 c4 (sA 3) 0 2 3 tX fc3 fa3 (by simp) (by intro e he; simp at he; try (rcases he with rfl | rfl <;> decide); try (subst he; decide)) (by decide) w1 (G4.out.below hB) (C4.out.below hB rfl) N4.out).mono ?_
   rintro e w2 ⟨a', c', rfl, h1, h2, h4, hb, h5⟩
   exact hK.out _ w2 (⟨a', c', rfl, h1, h2, fun ad had => Nat.le_trans hB.size (h4 ad had)⟩) hb
 refine relG_call (i := 4) (o := ⟨some 39, _, _, _, _, _⟩) ((fun v w' => ∃ (a : Option Addr) (c : Nat), v = .tuple #[.agg #[.int .i64 2, .int .i64 0, .slice a 1 c], .int .i64 0] ∧ CellsAt w' a (elsV [(sA 2, tY)]) ∧ 1 ≤ c ∧ (∀ ad, a = some ad → w4.heap.size ≤ ad.block))) [(3, 43, 0)] [] rfl rfl (by kernel_rfl) (by kernel_rfl) ((fun v w' w'' h hb => by obtain ⟨a, c, e1, e2, e3, e4⟩ := h; exact ⟨a, c, e1, e2.below hb rfl, e3, e4⟩)) ?_ ?_
 · intro t w1 hB hf hbf K hK
   simp only [DepF, List.getD_cons_zero] at hf
   obtain ⟨⟨_, ⟨e43, i43⟩, ⟨a', c', rfl, h1, h2, h4⟩⟩, _⟩ := hf
   clear hbf
   have hv := boxStays X4.out hB
   have k0 := cell_of_row _ zb4 0 _ _ _ hv
   have k1 := cell_of_row _ zb4 1 _ _ _ hv
   have k2 := cell_of_row _ zb4 2 _ _ _ hv
   clear hv
   refine ⟨wanted_none rfl, ?_⟩
   go_simp
   exact hK.out _ _ (⟨a', c', rfl, h1, h2, h4⟩) (Below.refl _ _)
 refine relG_call (i := 5) (o := ⟨some 44, _, _, _, _, _⟩) ((fun v w' => ∃ (a : Option Addr) (c : Nat), v = .agg #[.int .i64 2, .int .i64 0, .slice a 1 c] ∧ CellsAt w' a (elsV [(sA 2, tY)]) ∧ 1 ≤ c ∧ (∀ ad, a = some ad → w4.heap.size ≤ ad.block))) [(4, 39, 0)] [] rfl rfl (by kernel_rfl) (by kernel_rfl) ((fun v w' w'' h hb => by obtain ⟨a, c, e1, e2, e3, e4⟩ := h; exact ⟨a, c, e1, e2.below hb rfl, e3, e4⟩)) ?_ ?_
 · intro t w1 hB hf hbf K hK
   simp only [DepF, List.getD_cons_zero] at hf
   obtain ⟨⟨_, ⟨e39, i39⟩, ⟨a', c', rfl, h1, h2, h4⟩⟩, _⟩ := hf
   clear hbf
   have hv := boxStays X4.out hB
   have k0 := cell_of_row _ zb4 0 _ _ _ hv
   have k1 := cell_of_row _ zb4 1 _ _ _ hv
   have k2 := cell_of_row _ zb4 2 _ _ _ hv
   clear hv
   refine ⟨wanted_none rfl, ?_⟩
   go_simp
   exact hK.out _ _ (⟨a', c', rfl, h1, h2, h4⟩) (Below.refl _ _)
 refine relG_pure (i := 6) (o := ⟨some 45, _, _, _, _, _⟩) (v := ?v11) [(4, 39, 1)] [] rfl rfl (by kernel_rfl) (by kernel_rfl) (fun t w1 hB hf hbf => ?y11) ?n11
 case y11 =>
  simp only [DepF, List.getD_cons_zero, List.getD_cons_succ] at hf
  obtain ⟨⟨_, ⟨e39, i39⟩, ⟨a', c', rfl, h1, h2, h4⟩⟩, _⟩ := hf
  clear hbf
  have hv := boxStays X4.out hB
  have k0 := cell_of_row _ zb4 0 _ _ _ hv
  have k1 := cell_of_row _ zb4 1 _ _ _ hv
  have k2 := cell_of_row _ zb4 2 _ _ _ hv
  clear hv
  refine Or.inl ⟨wanted_none rfl, ?_⟩
  rintro _ rfl
  go_simp <;> with_reducible rfl
 refine relG_call (i := 7) (o := ⟨some 6, _, _, _, _, _⟩) ((fun v w' => ∃ b, v = .pointer (some ⟨b, 0, none⟩) ∧ w4.heap.size ≤ b ∧ w'.heap[b]? = some (.cells #[.int .i64 0, .int .i64 0, .slice none 0 0] 79 (0, 0)))) [] [] rfl rfl (by kernel_rfl) (by kernel_rfl) ((fun v w' w'' h hb => by obtain ⟨b, e1, e2, e3⟩ := h; exact ⟨b, e1, e2, boxStays e3 hb⟩)) ?_ ?_
 · intro t w1 hB hf hbf K hK
   clear hf
   clear hbf
   have hv := boxStays X4.out hB
   have k0 := cell_of_row _ zb4 0 _ _ _ hv
   have k1 := cell_of_row _ zb4 1 _ _ _ hv
   have k2 := cell_of_row _ zb4 2 _ _ _ hv
   clear hv
   refine ⟨wanted_none rfl, ?_⟩
   go_simp
   exact hK.out _ _ (⟨_, rfl, hB.size, heap_alloc_new _ _⟩) (below_new _ _)
 refine relG_skip 8 rfl (by rfl) ?_ (by kernel_rfl)
 refine relG_pure (i := 9) (o := ⟨some 7, _, _, _, _, _⟩) (v := ?v12) [(6, 45, 2)] [] rfl rfl (by kernel_rfl) (by kernel_rfl) (fun t w1 hB hf hbf => ?y12) ?n12
 case y12 =>
  simp only [DepF, List.getD_cons_zero, List.getD_cons_succ] at hf
  obtain ⟨⟨_, ⟨e45, i45⟩, rfl⟩, _⟩ := hf
  clear hbf
  have hv := boxStays X4.out hB
  have k0 := cell_of_row _ zb4 0 _ _ _ hv
  have k1 := cell_of_row _ zb4 1 _ _ _ hv
  have k2 := cell_of_row _ zb4 2 _ _ _ hv
  clear hv
  refine Or.inl ⟨wanted_none rfl, ?_⟩
  rintro _ rfl
  go_simp <;> with_reducible rfl
 refine relG_own 8 6 7 44 5 [(0, 40, 9), (1, 41, 8), (2, 42, 7), (3, 43, 6), (4, 39, 5), (5, 44, 4), (6, 45, 3), (7, 6, 2), (9, 7, 0)] [(0, 40, 9), (1, 41, 8), (2, 42, 7), (3, 43, 6), (4, 39, 5), (5, 44, 4), (7, 6, 2)] (by kernel_rfl) rfl (by kernel_rfl) (by kernel_rfl) (by kernel_rfl) (by kernel_rfl) ?_ (fun f wE hB hf => ?_)
 · intro f w1 hB hf K hK
   simp only [FinF, List.getD_cons_zero, List.getD_cons_succ] at hf
   obtain ⟨⟨_, e40, rfl⟩, ⟨_, e41, rfl⟩, ⟨_, e42, rfl⟩, ⟨_, e43, ⟨a', c', rfl, h1, h2, h4⟩⟩, ⟨_, e39, ⟨a', c', rfl, h1, h2, h4⟩⟩, ⟨_, e44, ⟨a6, c6, rfl, h1, h2, h4⟩⟩, ⟨_, e6, ⟨zb6, rfl, hbb, hbr⟩⟩, _⟩ := hf
   have hv := boxStays X4.out hB
   have k0 := cell_of_row _ zb4 0 _ _ _ hv
   have k1 := cell_of_row _ zb4 1 _ _ _ hv
   have k2 := cell_of_row _ zb4 2 _ _ _ hv
   clear hv
   refine sto_own (i := 8) 79 6 44 zb6 (#[.int .i64 2, .int .i64 0, .slice a6 1 c6]) _ _ rfl rfl rfl rfl (by rfl) (by rfl) e6 (by rfl) (by rfl) e44 (hbr) (by kernel_rfl) rfl ((by simp [Value.oneCell'])) hK
 simp only [FinF, List.getD_cons_zero, List.getD_cons_succ] at hf
 obtain ⟨⟨_, e40, rfl⟩, ⟨_, e41, rfl⟩, ⟨_, e42, rfl⟩, ⟨_, e43, ⟨a', c', rfl, h1, h2, h4⟩⟩, ⟨_, e39, ⟨a', c', rfl, h1, h2, h4⟩⟩, ⟨_, e44, ⟨a6, c6, rfl, h1, h2, h4⟩⟩, ⟨_, e45, rfl⟩, ⟨_, e6, ⟨zb6, rfl, hbb, hbr⟩⟩, ⟨_, e7, rfl⟩, _⟩ := hf
 simp only [blkOf, Value.cells, regT, List.foldl_cons, List.foldl_nil, List.setIfInBounds_toArray, List.set_cons_zero, List.set_cons_succ, e40, e41, e42, e43, e39, e44, e45, e6, e7]
 clear e40 e41 e42 e43 e39 e44 e45 e6 e7
 have C6 : Hid (CellsAt (wE.setRow zb6 #[.int .i64 2, .int .i64 0, .slice a6 1 c6]) a6 (elsV [(sA 2, tY)])) := Lib.hid (cells_grown h1 (grown_setRow wE zb6 #[.int .i64 2, .int .i64 0, .slice a6 1 c6]) (ne_cells h1 hbr))
 have X6 := Lib.hid (setRow_heap _ _ _ #[.int .i64 2, .int .i64 0, .slice a6 1 c6] _ _ hbr)
 have F6 := Lib.hid h4
 have N6 := Lib.hid h2
 have E6 := Lib.hid hbb
 have QC : Hid (Below w4.heap.size w4 (wE.setRow zb6 #[.int .i64 2, .int .i64 0, .slice a6 1 c6])) := Lib.hid (below_setRow hB hbb #[.int .i64 2, .int .i64 0, .slice a6 1 c6])
 clear h1 h2 h4 hbr hB hbb
 generalize wE.setRow zb6 #[.int .i64 2, .int .i64 0, .slice a6 1 c6] = w6 at *
 go_upto_region 5 with (fail)
 have hb := QC.out
 replace HC := Lib.hid (HC.out.push hb)
 clear hb
 clear QC
 have S36 : Hid (w3.heap.size ≤ w6.heap.size ∧ w3.heap.size ≤ w4.heap.size) := Lib.hid ⟨(HC.out.to w3 (by simp)).size, S34.out⟩
 have V6 := Lib.hid (boxStays X3.out (HC.out.to w3 (by simp)))
 have W6 := Lib.hid (boxStays X4.out (HC.out.to w4 (by simp)))
 have v0 := cell_of_row _ _ 0 _ _ _ V6.out
 have v1 := cell_of_row _ _ 1 _ _ _ V6.out
 have v2 := cell_of_row _ _ 2 _ _ _ V6.out
 have x0 := cell_of_row _ _ 0 _ _ _ W6.out
 have x1 := cell_of_row _ _ 1 _ _ _ W6.out
 have x2 := cell_of_row _ _ 2 _ _ _ W6.out
 have y0 := cell_of_row _ _ 0 _ _ _ X6.out
 have y1 := cell_of_row _ _ 1 _ _ _ X6.out
 have y2 := cell_of_row _ _ 2 _ _ _ X6.out
 go_wp2_with fail
 clear v0 v1 v2 x0 x1 x2 y0 y1 y2
 refine (kn_th a3 c3 a6 c6 a4 c4 _ (C3.out.below (HC.out.to w3 (by simp)) rfl) (C6.out.below (HC.out.to w6 (by simp)) rfl) (C4.out.below (HC.out.to w4 (by simp)) rfl)).mono ?_
 rintro e w7 ⟨a8, c8, rfl, h1, h2, h4, hb⟩
 replace HC := Lib.hid (HC.out.push hb)
 clear hb
 have S37 : Hid (w3.heap.size ≤ w7.heap.size) := Lib.hid (HC.out.to w3 (by simp)).size
 have C8 := Lib.hid h1
 have F8 := Lib.hid h4
 clear h1 h2 h4
 go_upto_region 6 with (fail)
 obtain ⟨zb8, hzb8⟩ : ∃ c, w7.heap.size = c := ⟨_, rfl⟩
 try rw [hzb8]
 obtain ⟨w8, hw8⟩ : ∃ X, allocs w7 [.cells #[.int .i64 2, .int .i64 0, .slice a8 1 c8] 79] = X := ⟨_, rfl⟩
 rw [show w7.alloc (.cells #[.int .i64 2, .int .i64 0, .slice a8 1 c8] 79) = w8 from hw8]
 have hb : Below w7.heap.size w7 w8 := by rw [← hw8]; exact allocs_below _ _
 have HX : Hid (w8.heap[zb8]? = some (.cells #[.int .i64 2, .int .i64 0, .slice a8 1 c8] 79 (0, 0))) := Lib.hid (by have := allocs_get [.cells #[.int .i64 2, .int .i64 0, .slice a8 1 c8] 79] w7 0 _ rfl; rw [hw8, hzb8] at this; exact this)
 have Szb8 : Hid (w7.heap.size = zb8) := Lib.hid hzb8
 replace HC := Lib.hid (HC.out.push hb)
 clear hb hw8 hzb8
 have S38 : Hid (w3.heap.size ≤ w8.heap.size) := Lib.hid (HC.out.to w3 (by simp)).size
 have W8 := Lib.hid (boxStays X4.out (HC.out.to w4 (by simp)))
 have x0 := cell_of_row _ _ 0 _ _ _ W8.out
 have x1 := cell_of_row _ _ 1 _ _ _ W8.out
 have x2 := cell_of_row _ _ 2 _ _ _ W8.out
 go_wp2_with fail
 clear x0 x1 x2
 refine (kn_sh a4 c4 _ (C4.out.below (HC.out.to w4 (by simp)) rfl)).mono ?_
 rintro e w9 ⟨aT, cT, rfl, h1, h4, hb⟩
 replace HC := Lib.hid (HC.out.push hb)
 clear hb
 have CT := Lib.hid h1
 have FT := Lib.hid h4
 clear h1 h4
 go_wp2_with fail
 refine (kn_KindQ _).mono ?_
 rintro e w10 ⟨rfl, hb⟩
 replace HC := Lib.hid (HC.out.push hb)
 clear hb
 go_upto_region 8 with (fail)
 have G10 := Lib.hid (G3.out.below (HC.out.to w3 (by simp)))
 have W10 := Lib.hid (boxStays X4.out (HC.out.to w4 (by simp)))
 have C10 := Lib.hid (C4.out.below (HC.out.to w4 (by simp)) rfl)
 refine relG_start (slots := [64, 65, 66, 67, 63, 68, 69, 15, 16]) (so := [8]) (by kernel_rfl) (by kernel_rfl) (by rfl) ?_
 refine relG_pure (i := 0) (o := ⟨some 64, _, _, _, _, _⟩) (v := ?v13) [] [4] rfl rfl (by kernel_rfl) (by kernel_rfl) (fun t w1 hB hf hbf => ?y13) ?n13
 case y13 =>
  simp only [BasF] at hbf
  clear hf
  obtain ⟨⟨b4, k4⟩, _⟩ := hbf
  have hv := boxStays W10.out hB
  have k0 := cell_of_row _ zb4 0 _ _ _ hv
  have k1 := cell_of_row _ zb4 1 _ _ _ hv
  have k2 := cell_of_row _ zb4 2 _ _ _ hv
  clear hv
  refine Or.inl ⟨wanted_none rfl, ?_⟩
  rintro _ rfl
  go_simp <;> with_reducible rfl
 refine relG_call (i := 1) (o := ⟨some 65, _, _, _, _, _⟩) ((fun v _ => v = .agg #[.int .i64 2, .int .i64 0, .string ⟨#[97]⟩, .int .i64 1, .int .i64 0])) [] [] rfl rfl (by kernel_rfl) (by kernel_rfl) ((fun _ _ _ h _ => h)) ?_ ?_
 · intro t w1 hB hf hbf K hK
   clear hf
   clear hbf
   have hv := boxStays W10.out hB
   have k0 := cell_of_row _ zb4 0 _ _ _ hv
   have k1 := cell_of_row _ zb4 1 _ _ _ hv
   have k2 := cell_of_row _ zb4 2 _ _ _ hv
   clear hv
   refine ⟨wanted_none rfl, ?_⟩
   go_simp
   refine (kn_at 2 w1).mono ?_
   rintro e w2 ⟨rfl, hb⟩
   exact hK.out _ w2 (rfl) hb
 refine relG_pure (i := 2) (o := ⟨some 66, _, _, _, _, _⟩) (v := ?v14) [] [] rfl rfl (by kernel_rfl) (by kernel_rfl) (fun t w1 hB hf hbf => ?y14) ?n14
 case y14 =>
  clear hf
  clear hbf
  have hv := boxStays W10.out hB
  have k0 := cell_of_row _ zb4 0 _ _ _ hv
  have k1 := cell_of_row _ zb4 1 _ _ _ hv
  have k2 := cell_of_row _ zb4 2 _ _ _ hv
  clear hv
  refine Or.inl ⟨wanted_none rfl, ?_⟩
  rintro _ rfl
  go_simp <;> with_reducible rfl
 refine relG_call (i := 3) (o := ⟨some 67, _, _, _, _, _⟩) ((fun v w' => ∃ (a : Option Addr) (c : Nat), v = .tuple #[.agg #[.int .i64 0, .int .i64 0, .slice a 0 c], .int .i64 2] ∧ CellsAt w' a (elsV []) ∧ 0 ≤ c ∧ (∀ ad, a = some ad → w10.heap.size ≤ ad.block))) [(0, 64, 2), (1, 65, 1), (2, 66, 0)] [] rfl rfl (by kernel_rfl) (by kernel_rfl) ((fun v w' w'' h hb => by obtain ⟨a, c, e1, e2, e3, e4⟩ := h; exact ⟨a, c, e1, e2.below hb rfl, e3, e4⟩)) ?_ ?_
 · intro t w1 hB hf hbf K hK
   simp only [DepF, List.getD_cons_zero, List.getD_cons_succ] at hf
   obtain ⟨⟨_, ⟨e64, i64⟩, rfl⟩, ⟨_, ⟨e65, i65⟩, rfl⟩, ⟨_, ⟨e66, i66⟩, rfl⟩, _⟩ := hf
   clear hbf
   have hv := boxStays W10.out hB
   have k0 := cell_of_row _ zb4 0 _ _ _ hv
   have k1 := cell_of_row _ zb4 1 _ _ _ hv
   have k2 := cell_of_row _ zb4 2 _ _ _ hv
   clear hv
   refine ⟨wanted_none rfl, ?_⟩
   go_simp
   refine (kn_ap [(sA 1, tX), (sA 2, tY)] [] 0 0 2 a4 c4 (sA 2) 0 2 2 ⟨#[]⟩ fc4 fa4 (by simp) (by intro e he; simp at he; try (rcases he with rfl | rfl <;> decide); try (subst he; decide)) (by decide) w1 (G10.out.below hB) (C10.out.below hB rfl) N4.out).mono ?_
   rintro e w2 ⟨a', c', rfl, h1, h2, h4, hb, h5⟩
   exact hK.out _ w2 (⟨a', c', rfl, h1, h2, fun ad had => Nat.le_trans hB.size (h4 ad had)⟩) hb
 refine relG_call (i := 4) (o := ⟨some 63, _, _, _, _, _⟩) ((fun v w' => ∃ (a : Option Addr) (c : Nat), v = .tuple #[.agg #[.int .i64 0, .int .i64 0, .slice a 0 c], .int .i64 2] ∧ CellsAt w' a (elsV []) ∧ 0 ≤ c ∧ (∀ ad, a = some ad → w10.heap.size ≤ ad.block))) [(3, 67, 0)] [] rfl rfl (by kernel_rfl) (by kernel_rfl) ((fun v w' w'' h hb => by obtain ⟨a, c, e1, e2, e3, e4⟩ := h; exact ⟨a, c, e1, e2.below hb rfl, e3, e4⟩)) ?_ ?_
 · intro t w1 hB hf hbf K hK
   simp only [DepF, List.getD_cons_zero] at hf
   obtain ⟨⟨_, ⟨e67, i67⟩, ⟨a', c', rfl, h1, h2, h4⟩⟩, _⟩ := hf
   clear hbf
   have hv := boxStays W10.out hB
   have k0 := cell_of_row _ zb4 0 _ _ _ hv
   have k1 := cell_of_row _ zb4 1 _ _ _ hv
   have k2 := cell_of_row _ zb4 2 _ _ _ hv
   clear hv
   refine ⟨wanted_none rfl, ?_⟩
   go_simp
   exact hK.out _ _ (⟨a', c', rfl, h1, h2, h4⟩) (Below.refl _ _)
 refine relG_call (i := 5) (o := ⟨some 68, _, _, _, _, _⟩) ((fun v w' => ∃ (a : Option Addr) (c : Nat), v = .agg #[.int .i64 0, .int .i64 0, .slice a 0 c] ∧ CellsAt w' a (elsV []) ∧ 0 ≤ c ∧ (∀ ad, a = some ad → w10.heap.size ≤ ad.block))) [(4, 63, 0)] [] rfl rfl (by kernel_rfl) (by kernel_rfl) ((fun v w' w'' h hb => by obtain ⟨a, c, e1, e2, e3, e4⟩ := h; exact ⟨a, c, e1, e2.below hb rfl, e3, e4⟩)) ?_ ?_
 · intro t w1 hB hf hbf K hK
   simp only [DepF, List.getD_cons_zero] at hf
   obtain ⟨⟨_, ⟨e63, i63⟩, ⟨a', c', rfl, h1, h2, h4⟩⟩, _⟩ := hf
   clear hbf
   have hv := boxStays W10.out hB
   have k0 := cell_of_row _ zb4 0 _ _ _ hv
   have k1 := cell_of_row _ zb4 1 _ _ _ hv
   have k2 := cell_of_row _ zb4 2 _ _ _ hv
   clear hv
   refine ⟨wanted_none rfl, ?_⟩
   go_simp
   exact hK.out _ _ (⟨a', c', rfl, h1, h2, h4⟩) (Below.refl _ _)
 refine relG_pure (i := 6) (o := ⟨some 69, _, _, _, _, _⟩) (v := ?v15) [(4, 63, 1)] [] rfl rfl (by kernel_rfl) (by kernel_rfl) (fun t w1 hB hf hbf => ?y15) ?n15
 case y15 =>
  simp only [DepF, List.getD_cons_zero, List.getD_cons_succ] at hf
  obtain ⟨⟨_, ⟨e63, i63⟩, ⟨a', c', rfl, h1, h2, h4⟩⟩, _⟩ := hf
  clear hbf
  have hv := boxStays W10.out hB
  have k0 := cell_of_row _ zb4 0 _ _ _ hv
  have k1 := cell_of_row _ zb4 1 _ _ _ hv
  have k2 := cell_of_row _ zb4 2 _ _ _ hv
  clear hv
  refine Or.inl ⟨wanted_none rfl, ?_⟩
  rintro _ rfl
  go_simp <;> with_reducible rfl
 refine relG_call (i := 7) (o := ⟨some 15, _, _, _, _, _⟩) ((fun v w' => ∃ b, v = .pointer (some ⟨b, 0, none⟩) ∧ w10.heap.size ≤ b ∧ w'.heap[b]? = some (.cells #[.int .i64 0, .int .i64 0, .slice none 0 0] 79 (0, 0)))) [] [] rfl rfl (by kernel_rfl) (by kernel_rfl) ((fun v w' w'' h hb => by obtain ⟨b, e1, e2, e3⟩ := h; exact ⟨b, e1, e2, boxStays e3 hb⟩)) ?_ ?_
 · intro t w1 hB hf hbf K hK
   clear hf
   clear hbf
   have hv := boxStays W10.out hB
   have k0 := cell_of_row _ zb4 0 _ _ _ hv
   have k1 := cell_of_row _ zb4 1 _ _ _ hv
   have k2 := cell_of_row _ zb4 2 _ _ _ hv
   clear hv
   refine ⟨wanted_none rfl, ?_⟩
   go_simp
   exact hK.out _ _ (⟨_, rfl, hB.size, heap_alloc_new _ _⟩) (below_new _ _)
 refine relG_skip 8 rfl (by rfl) ?_ (by kernel_rfl)
 refine relG_pure (i := 9) (o := ⟨some 16, _, _, _, _, _⟩) (v := ?v16) [(6, 69, 2)] [] rfl rfl (by kernel_rfl) (by kernel_rfl) (fun t w1 hB hf hbf => ?y16) ?n16
 case y16 =>
  simp only [DepF, List.getD_cons_zero, List.getD_cons_succ] at hf
  obtain ⟨⟨_, ⟨e69, i69⟩, rfl⟩, _⟩ := hf
  clear hbf
  have hv := boxStays W10.out hB
  have k0 := cell_of_row _ zb4 0 _ _ _ hv
  have k1 := cell_of_row _ zb4 1 _ _ _ hv
  have k2 := cell_of_row _ zb4 2 _ _ _ hv
  clear hv
  refine Or.inl ⟨wanted_none rfl, ?_⟩
  rintro _ rfl
  go_simp <;> with_reducible rfl
 refine relG_own 8 15 7 68 5 [(0, 64, 9), (1, 65, 8), (2, 66, 7), (3, 67, 6), (4, 63, 5), (5, 68, 4), (6, 69, 3), (7, 15, 2), (9, 16, 0)] [(0, 64, 9), (1, 65, 8), (2, 66, 7), (3, 67, 6), (4, 63, 5), (5, 68, 4), (7, 15, 2)] (by kernel_rfl) rfl (by kernel_rfl) (by kernel_rfl) (by kernel_rfl) (by kernel_rfl) ?_ (fun f wE hB hf => ?_)
 · intro f w1 hB hf K hK
   simp only [FinF, List.getD_cons_zero, List.getD_cons_succ] at hf
   obtain ⟨⟨_, e64, rfl⟩, ⟨_, e65, rfl⟩, ⟨_, e66, rfl⟩, ⟨_, e67, ⟨a', c', rfl, h1, h2, h4⟩⟩, ⟨_, e63, ⟨a', c', rfl, h1, h2, h4⟩⟩, ⟨_, e68, ⟨a11, c11, rfl, h1, h2, h4⟩⟩, ⟨_, e15, ⟨zb11, rfl, hbb, hbr⟩⟩, _⟩ := hf
   have hv := boxStays W10.out hB
   have k0 := cell_of_row _ zb4 0 _ _ _ hv
   have k1 := cell_of_row _ zb4 1 _ _ _ hv
   have k2 := cell_of_row _ zb4 2 _ _ _ hv
   clear hv
   refine sto_own (i := 8) 79 15 68 zb11 (#[.int .i64 0, .int .i64 0, .slice a11 0 c11]) _ _ rfl rfl rfl rfl (by rfl) (by rfl) e15 (by rfl) (by rfl) e68 (hbr) (by kernel_rfl) rfl ((by simp [Value.oneCell'])) hK
 simp only [FinF, List.getD_cons_zero, List.getD_cons_succ] at hf
 obtain ⟨⟨_, e64, rfl⟩, ⟨_, e65, rfl⟩, ⟨_, e66, rfl⟩, ⟨_, e67, ⟨a', c', rfl, h1, h2, h4⟩⟩, ⟨_, e63, ⟨a', c', rfl, h1, h2, h4⟩⟩, ⟨_, e68, ⟨a11, c11, rfl, h1, h2, h4⟩⟩, ⟨_, e69, rfl⟩, ⟨_, e15, ⟨zb11, rfl, hbb, hbr⟩⟩, ⟨_, e16, rfl⟩, _⟩ := hf
 simp only [blkOf, Value.cells, regT, List.foldl_cons, List.foldl_nil, List.setIfInBounds_toArray, List.set_cons_zero, List.set_cons_succ, e64, e65, e66, e67, e63, e68, e69, e15, e16]
 clear e64 e65 e66 e67 e63 e68 e69 e15 e16
 have E11 := Lib.hid hbb
 have QC : Hid (Below w10.heap.size w10 (wE.setRow zb11 #[.int .i64 0, .int .i64 0, .slice a11 0 c11])) := Lib.hid (below_setRow hB hbb #[.int .i64 0, .int .i64 0, .slice a11 0 c11])
 clear h1 h2 h4 hbr hB hbb
 generalize wE.setRow zb11 #[.int .i64 0, .int .i64 0, .slice a11 0 c11] = w11 at *
 go_upto_region 9 with (fail)
 have hb := QC.out
 replace HC := Lib.hid (HC.out.push hb)
 clear hb
 clear QC E11
 have V11 := Lib.hid (boxStays X3.out (HC.out.to w3 (by simp)))
 have O11 := Lib.hid (own_later O3.out (HC.out.to w3 (by simp)) (Nat.le_refl _))
 have L11 : Hid (w2.heap.size ≤ w11.heap.size ∧ w3.heap.size ≤ w11.heap.size) := Lib.hid ⟨Nat.le_trans S3.out (HC.out.to w3 (by simp)).size, (HC.out.to w3 (by simp)).size⟩
 obtain ⟨g3, c', hv3, hg3, hgl3, hnk3, _⟩ := own_form O3.out (by decide)
 cases hv3
 have GL : Hid (g3 < w3.heap.size ∧ w2.heap.size ≤ g3) := Lib.hid ⟨hgl3, hg3⟩
 clear hg3 hgl3 hnk3
 have SRC := Lib.hid ((C3.out.below (HC.out.to w3 (by simp)) rfl).srcN (P := Tryz.prog) (n := 1) (size := 6) (tx := 22) (e' := 53) rfl (elsV_one [(sA 1, tX)]) Tryz.underlying22 c3 (by decide))
 have W11 := Lib.hid (boxStays X4.out (HC.out.to w4 (by simp)))
 have U11 := Lib.hid (boxStays X6.out (HC.out.to w6 (by simp)))
 have Y11 := Lib.hid (boxStays HX.out (HC.out.to w8 (by simp)))
 have CW11 := Lib.hid (C4.out.below (HC.out.to w4 (by simp)) rfl)
 have CU11 := Lib.hid (C6.out.below (HC.out.to w6 (by simp)) rfl)
 have CX11 := Lib.hid (C8.out.below (HC.out.to w7 (by simp)) rfl)
 have CT11 := Lib.hid (CT.out.below (HC.out.to w9 (by simp)) rfl)
 have G11 := Lib.hid (G3.out.below (HC.out.to w3 (by simp)))
 have BB11 : Hid (Below w.heap.size w w11) := Lib.hid (B3.out.trans ((HC.out.to w3 (by simp)).mono B3.out.size))
 have v2 := cell_of_row _ _ 2 _ _ _ V11.out
 go_wp2_with (at_builtin; go_must (refine wpList_app rfl _ _ 22 22 rfl w2.heap.size 53 _ 6 64 ET.out (.slice (some ⟨g3, 0, none⟩) 1 c3) 1 (elsV [(sA 1, tX)]) rfl O11.out _ 1 (elsV [(sA 1, tX)]) rfl SRC.out (by decide) (by decide) L11.out.1 ?_); go_must (intro v12 w12 hown12 hgr12 hbel12 _); go_must (obtain ⟨a12, c12, rfl, hn12, _⟩ := own_slice hown12); have C12 : Hid (CellsAt w12 a12 (elsV [(sA 1, tX), (sA 1, tX)])) := Lib.hid (CellsAt.ownN hown12); have N12 := Lib.hid hn12; have GR12 : Hid (w11.grownBy w12 (some g3)) := Lib.hid hgr12; have B12 : Hid (Below w2.heap.size w11 w12) := Lib.hid hbel12; clear hown12 hgr12 hbel12 hn12 v2)
 have BB12 : Hid (Below w.heap.size w w12) := Lib.hid (BB11.out.trans (B12.out.mono ZB.out.2.1))
 have W12 := Lib.hid (grow_keep GR12.out W11.out (fun e => by have e1 := Option.some.inj e; have e2 := GL.out; have e3 := E4.out; omega))
 have U12 := Lib.hid (grow_keep GR12.out U11.out (fun e => by have e1 := Option.some.inj e; have e2 := GL.out; have e3 := E6.out; have e4 := S36.out; omega))
 have Y12 := Lib.hid (grow_keep GR12.out Y11.out (fun e => by have e1 := Option.some.inj e; have e2 := GL.out; have e3 := Szb8.out; have e4 := S37.out; omega))
 have CW12 := Lib.hid (cells_grown CW11.out GR12.out (fun ad had => by have e1 := F4.out ad had; have e2 := GL.out; omega))
 have CU12 := Lib.hid (cells_grown CU11.out GR12.out (fun ad had => by have e1 := F6.out ad had; have e2 := GL.out; have e4 := S36.out; omega))
 have CX12 := Lib.hid (cells_grown CX11.out GR12.out (fun ad had => by have e1 := F8.out ad had; have e2 := GL.out; have e4 := S36.out; omega))
 have CT12 := Lib.hid (cells_grown CT11.out GR12.out (fun ad had => by have e1 := FT.out ad had; have e2 := GL.out; have e4 := S38.out; omega))
 have G12 := Lib.hid (G.out.below BB12.out)
 clear HC
 have HC : Hid (Chain [w12] w12) := Lib.hid (Chain.one w12)
 refine (kn_at 3 _).mono ?_
 rintro e w13 ⟨rfl, hb⟩
 replace HC := Lib.hid (HC.out.push hb)
 clear hb
 go_wp2_with fail
 refine (kn_ap [(sA 1, tX), (sA 1, tX)] [] 0 0 2 a12 c12 (sA 3) 0 2 2 ⟨#[]⟩ fc4 fa5 (by simp) (by intro e he; simp at he; subst he; decide) (by decide) _ (G12.out.below (HC.out.to w12 (by simp))) (C12.out.below (HC.out.to w12 (by simp)) rfl) N12.out).mono ?_
 rintro e w14 ⟨a14, c14, rfl, _, _, _, hb, _⟩
 replace HC := Lib.hid (HC.out.push hb)
 clear hb
 go_upto_region 10 with (fail)
 obtain ⟨zb15, hzb15⟩ : ∃ c, w14.heap.size = c := ⟨_, rfl⟩
 try rw [hzb15]
 obtain ⟨w15, hw15⟩ : ∃ X, allocs w14 [.cells #[.int .i64 0, .int .i64 0, .slice a14 0 c14] 79] = X := ⟨_, rfl⟩
 rw [show w14.alloc (.cells #[.int .i64 0, .int .i64 0, .slice a14 0 c14] 79) = w15 from hw15]
 have hb : Below w14.heap.size w14 w15 := by rw [← hw15]; exact allocs_below _ _
 have HZ : Hid (w15.heap[zb15]? = some (.cells #[.int .i64 0, .int .i64 0, .slice a14 0 c14] 79 (0, 0))) := Lib.hid (by have := allocs_get [.cells #[.int .i64 0, .int .i64 0, .slice a14 0 c14] 79] w14 0 _ rfl; rw [hw15, hzb15] at this; exact this)
 have Szb15 : Hid (w14.heap.size = zb15) := Lib.hid hzb15
 replace HC := Lib.hid (HC.out.push hb)
 clear hb hw15 hzb15
 have G15 := Lib.hid (G12.out.below (HC.out.to w12 (by simp)))
 have W15 := Lib.hid (boxStays W12.out (HC.out.to w12 (by simp)))
 have C15 := Lib.hid (CW12.out.below (HC.out.to w12 (by simp)) rfl)
 refine relG_start (slots := [83, 84, 85, 86, 82, 87, 88, 19, 20]) (so := [8]) (by kernel_rfl) (by kernel_rfl) (by rfl) ?_
 refine relG_pure (i := 0) (o := ⟨some 83, _, _, _, _, _⟩) (v := ?v17) [] [4] rfl rfl (by kernel_rfl) (by kernel_rfl) (fun t w1 hB hf hbf => ?y17) ?n17
 case y17 =>
  simp only [BasF] at hbf
  clear hf
  obtain ⟨⟨b4, k4⟩, _⟩ := hbf
  have hv := boxStays W15.out hB
  have k0 := cell_of_row _ zb4 0 _ _ _ hv
  have k1 := cell_of_row _ zb4 1 _ _ _ hv
  have k2 := cell_of_row _ zb4 2 _ _ _ hv
  clear hv
  refine Or.inl ⟨wanted_none rfl, ?_⟩
  rintro _ rfl
  go_simp <;> with_reducible rfl
 refine relG_call (i := 1) (o := ⟨some 84, _, _, _, _, _⟩) ((fun v _ => v = .agg #[.int .i64 3, .int .i64 0, .string ⟨#[97]⟩, .int .i64 1, .int .i64 0])) [] [] rfl rfl (by kernel_rfl) (by kernel_rfl) ((fun _ _ _ h _ => h)) ?_ ?_
 · intro t w1 hB hf hbf K hK
   clear hf
   clear hbf
   have hv := boxStays W15.out hB
   have k0 := cell_of_row _ zb4 0 _ _ _ hv
   have k1 := cell_of_row _ zb4 1 _ _ _ hv
   have k2 := cell_of_row _ zb4 2 _ _ _ hv
   clear hv
   refine ⟨wanted_none rfl, ?_⟩
   go_simp
   refine (kn_at 3 w1).mono ?_
   rintro e w2 ⟨rfl, hb⟩
   exact hK.out _ w2 (rfl) hb
 refine relG_pure (i := 2) (o := ⟨some 85, _, _, _, _, _⟩) (v := ?v18) [] [] rfl rfl (by kernel_rfl) (by kernel_rfl) (fun t w1 hB hf hbf => ?y18) ?n18
 case y18 =>
  clear hf
  clear hbf
  have hv := boxStays W15.out hB
  have k0 := cell_of_row _ zb4 0 _ _ _ hv
  have k1 := cell_of_row _ zb4 1 _ _ _ hv
  have k2 := cell_of_row _ zb4 2 _ _ _ hv
  clear hv
  refine Or.inl ⟨wanted_none rfl, ?_⟩
  rintro _ rfl
  go_simp <;> with_reducible rfl
 refine relG_call (i := 3) (o := ⟨some 86, _, _, _, _, _⟩) ((fun v w' => ∃ (a : Option Addr) (c : Nat), v = .tuple #[.agg #[.int .i64 0, .int .i64 0, .slice a 0 c], .int .i64 2] ∧ CellsAt w' a (elsV []) ∧ 0 ≤ c ∧ (∀ ad, a = some ad → w15.heap.size ≤ ad.block))) [(0, 83, 2), (1, 84, 1), (2, 85, 0)] [] rfl rfl (by kernel_rfl) (by kernel_rfl) ((fun v w' w'' h hb => by obtain ⟨a, c, e1, e2, e3, e4⟩ := h; exact ⟨a, c, e1, e2.below hb rfl, e3, e4⟩)) ?_ ?_
 · intro t w1 hB hf hbf K hK
   simp only [DepF, List.getD_cons_zero, List.getD_cons_succ] at hf
   obtain ⟨⟨_, ⟨e83, i83⟩, rfl⟩, ⟨_, ⟨e84, i84⟩, rfl⟩, ⟨_, ⟨e85, i85⟩, rfl⟩, _⟩ := hf
   clear hbf
   have hv := boxStays W15.out hB
   have k0 := cell_of_row _ zb4 0 _ _ _ hv
   have k1 := cell_of_row _ zb4 1 _ _ _ hv
   have k2 := cell_of_row _ zb4 2 _ _ _ hv
   clear hv
   refine ⟨wanted_none rfl, ?_⟩
   go_simp
   refine (kn_ap [(sA 1, tX), (sA 2, tY)] [] 0 0 2 a4 c4 (sA 3) 2 4 6 tX fc5 fa6 (by simp) (by intro e he; simp at he; try (rcases he with rfl | rfl <;> decide); try (subst he; decide)) (by decide) w1 (G15.out.below hB) (C15.out.below hB rfl) N4.out).mono ?_
   rintro e w2 ⟨a', c', rfl, h1, h2, h4, hb, h5⟩
   exact hK.out _ w2 (⟨a', c', rfl, h1, h2, fun ad had => Nat.le_trans hB.size (h4 ad had)⟩) hb
 refine relG_call (i := 4) (o := ⟨some 82, _, _, _, _, _⟩) ((fun v w' => ∃ (a : Option Addr) (c : Nat), v = .tuple #[.agg #[.int .i64 0, .int .i64 0, .slice a 0 c], .int .i64 2] ∧ CellsAt w' a (elsV []) ∧ 0 ≤ c ∧ (∀ ad, a = some ad → w15.heap.size ≤ ad.block))) [(3, 86, 0)] [] rfl rfl (by kernel_rfl) (by kernel_rfl) ((fun v w' w'' h hb => by obtain ⟨a, c, e1, e2, e3, e4⟩ := h; exact ⟨a, c, e1, e2.below hb rfl, e3, e4⟩)) ?_ ?_
 · intro t w1 hB hf hbf K hK
   simp only [DepF, List.getD_cons_zero] at hf
   obtain ⟨⟨_, ⟨e86, i86⟩, ⟨a', c', rfl, h1, h2, h4⟩⟩, _⟩ := hf
   clear hbf
   have hv := boxStays W15.out hB
   have k0 := cell_of_row _ zb4 0 _ _ _ hv
   have k1 := cell_of_row _ zb4 1 _ _ _ hv
   have k2 := cell_of_row _ zb4 2 _ _ _ hv
   clear hv
   refine ⟨wanted_none rfl, ?_⟩
   go_simp
   exact hK.out _ _ (⟨a', c', rfl, h1, h2, h4⟩) (Below.refl _ _)
 refine relG_call (i := 5) (o := ⟨some 87, _, _, _, _, _⟩) ((fun v w' => ∃ (a : Option Addr) (c : Nat), v = .agg #[.int .i64 0, .int .i64 0, .slice a 0 c] ∧ CellsAt w' a (elsV []) ∧ 0 ≤ c ∧ (∀ ad, a = some ad → w15.heap.size ≤ ad.block))) [(4, 82, 0)] [] rfl rfl (by kernel_rfl) (by kernel_rfl) ((fun v w' w'' h hb => by obtain ⟨a, c, e1, e2, e3, e4⟩ := h; exact ⟨a, c, e1, e2.below hb rfl, e3, e4⟩)) ?_ ?_
 · intro t w1 hB hf hbf K hK
   simp only [DepF, List.getD_cons_zero] at hf
   obtain ⟨⟨_, ⟨e82, i82⟩, ⟨a', c', rfl, h1, h2, h4⟩⟩, _⟩ := hf
   clear hbf
   have hv := boxStays W15.out hB
   have k0 := cell_of_row _ zb4 0 _ _ _ hv
   have k1 := cell_of_row _ zb4 1 _ _ _ hv
   have k2 := cell_of_row _ zb4 2 _ _ _ hv
   clear hv
   refine ⟨wanted_none rfl, ?_⟩
   go_simp
   exact hK.out _ _ (⟨a', c', rfl, h1, h2, h4⟩) (Below.refl _ _)
 refine relG_pure (i := 6) (o := ⟨some 88, _, _, _, _, _⟩) (v := ?v19) [(4, 82, 1)] [] rfl rfl (by kernel_rfl) (by kernel_rfl) (fun t w1 hB hf hbf => ?y19) ?n19
 case y19 =>
  simp only [DepF, List.getD_cons_zero, List.getD_cons_succ] at hf
  obtain ⟨⟨_, ⟨e82, i82⟩, ⟨a', c', rfl, h1, h2, h4⟩⟩, _⟩ := hf
  clear hbf
  have hv := boxStays W15.out hB
  have k0 := cell_of_row _ zb4 0 _ _ _ hv
  have k1 := cell_of_row _ zb4 1 _ _ _ hv
  have k2 := cell_of_row _ zb4 2 _ _ _ hv
  clear hv
  refine Or.inl ⟨wanted_none rfl, ?_⟩
  rintro _ rfl
  go_simp <;> with_reducible rfl
 refine relG_call (i := 7) (o := ⟨some 19, _, _, _, _, _⟩) ((fun v w' => ∃ b, v = .pointer (some ⟨b, 0, none⟩) ∧ w15.heap.size ≤ b ∧ w'.heap[b]? = some (.cells #[.int .i64 0, .int .i64 0, .slice none 0 0] 79 (0, 0)))) [] [] rfl rfl (by kernel_rfl) (by kernel_rfl) ((fun v w' w'' h hb => by obtain ⟨b, e1, e2, e3⟩ := h; exact ⟨b, e1, e2, boxStays e3 hb⟩)) ?_ ?_
 · intro t w1 hB hf hbf K hK
   clear hf
   clear hbf
   have hv := boxStays W15.out hB
   have k0 := cell_of_row _ zb4 0 _ _ _ hv
   have k1 := cell_of_row _ zb4 1 _ _ _ hv
   have k2 := cell_of_row _ zb4 2 _ _ _ hv
   clear hv
   refine ⟨wanted_none rfl, ?_⟩
   go_simp
   exact hK.out _ _ (⟨_, rfl, hB.size, heap_alloc_new _ _⟩) (below_new _ _)
 refine relG_skip 8 rfl (by rfl) ?_ (by kernel_rfl)
 refine relG_pure (i := 9) (o := ⟨some 20, _, _, _, _, _⟩) (v := ?v20) [(6, 88, 2)] [] rfl rfl (by kernel_rfl) (by kernel_rfl) (fun t w1 hB hf hbf => ?y20) ?n20
 case y20 =>
  simp only [DepF, List.getD_cons_zero, List.getD_cons_succ] at hf
  obtain ⟨⟨_, ⟨e88, i88⟩, rfl⟩, _⟩ := hf
  clear hbf
  have hv := boxStays W15.out hB
  have k0 := cell_of_row _ zb4 0 _ _ _ hv
  have k1 := cell_of_row _ zb4 1 _ _ _ hv
  have k2 := cell_of_row _ zb4 2 _ _ _ hv
  clear hv
  refine Or.inl ⟨wanted_none rfl, ?_⟩
  rintro _ rfl
  go_simp <;> with_reducible rfl
 refine relG_own 8 19 7 87 5 [(0, 83, 9), (1, 84, 8), (2, 85, 7), (3, 86, 6), (4, 82, 5), (5, 87, 4), (6, 88, 3), (7, 19, 2), (9, 20, 0)] [(0, 83, 9), (1, 84, 8), (2, 85, 7), (3, 86, 6), (4, 82, 5), (5, 87, 4), (7, 19, 2)] (by kernel_rfl) rfl (by kernel_rfl) (by kernel_rfl) (by kernel_rfl) (by kernel_rfl) ?_ (fun f wE hB hf => ?_)
 · intro f w1 hB hf K hK
   simp only [FinF, List.getD_cons_zero, List.getD_cons_succ] at hf
   obtain ⟨⟨_, e83, rfl⟩, ⟨_, e84, rfl⟩, ⟨_, e85, rfl⟩, ⟨_, e86, ⟨a', c', rfl, h1, h2, h4⟩⟩, ⟨_, e82, ⟨a', c', rfl, h1, h2, h4⟩⟩, ⟨_, e87, ⟨a16, c16, rfl, h1, h2, h4⟩⟩, ⟨_, e19, ⟨zb16, rfl, hbb, hbr⟩⟩, _⟩ := hf
   have hv := boxStays W15.out hB
   have k0 := cell_of_row _ zb4 0 _ _ _ hv
   have k1 := cell_of_row _ zb4 1 _ _ _ hv
   have k2 := cell_of_row _ zb4 2 _ _ _ hv
   clear hv
   refine sto_own (i := 8) 79 19 87 zb16 (#[.int .i64 0, .int .i64 0, .slice a16 0 c16]) _ _ rfl rfl rfl rfl (by rfl) (by rfl) e19 (by rfl) (by rfl) e87 (hbr) (by kernel_rfl) rfl ((by simp [Value.oneCell'])) hK
 simp only [FinF, List.getD_cons_zero, List.getD_cons_succ] at hf
 obtain ⟨⟨_, e83, rfl⟩, ⟨_, e84, rfl⟩, ⟨_, e85, rfl⟩, ⟨_, e86, ⟨a', c', rfl, h1, h2, h4⟩⟩, ⟨_, e82, ⟨a', c', rfl, h1, h2, h4⟩⟩, ⟨_, e87, ⟨a16, c16, rfl, h1, h2, h4⟩⟩, ⟨_, e88, rfl⟩, ⟨_, e19, ⟨zb16, rfl, hbb, hbr⟩⟩, ⟨_, e20, rfl⟩, _⟩ := hf
 simp only [blkOf, Value.cells, regT, List.foldl_cons, List.foldl_nil, List.setIfInBounds_toArray, List.set_cons_zero, List.set_cons_succ, e83, e84, e85, e86, e82, e87, e88, e19, e20]
 clear e83 e84 e85 e86 e82 e87 e88 e19 e20
 have E16 := Lib.hid hbb
 have QC : Hid (Below w15.heap.size w15 (wE.setRow zb16 #[.int .i64 0, .int .i64 0, .slice a16 0 c16])) := Lib.hid (below_setRow hB hbb #[.int .i64 0, .int .i64 0, .slice a16 0 c16])
 clear h1 h2 h4 hbr hB hbb
 generalize wE.setRow zb16 #[.int .i64 0, .int .i64 0, .slice a16 0 c16] = w16 at *
 go_upto_region 11 with (fail)
 have hb := QC.out
 replace HC := Lib.hid (HC.out.push hb)
 clear hb
 clear QC E16
 have U16 := Lib.hid (boxStays U12.out (HC.out.to w12 (by simp)))
 have Y16 := Lib.hid (boxStays Y12.out (HC.out.to w12 (by simp)))
 have y0 := cell_of_row _ _ 0 _ _ _ Y16.out
 have y1 := cell_of_row _ _ 1 _ _ _ Y16.out
 have y2 := cell_of_row _ _ 2 _ _ _ Y16.out
 have u0 := cell_of_row _ _ 0 _ _ _ U16.out
 have u1 := cell_of_row _ _ 1 _ _ _ U16.out
 have u2 := cell_of_row _ _ 2 _ _ _ U16.out
 go_wp2_with fail
 refine (kn_num _ _).mono ?_
 rintro e w' ⟨rfl, hw⟩
 rw [hw]
 clear hw w'
 go_wp2_with fail
 refine (kn_num _ _).mono ?_
 rintro e w' ⟨rfl, hw⟩
 rw [hw]
 clear hw w'
 go_wp2_with fail
 refine (kn_num _ _).mono ?_
 rintro e w' ⟨rfl, hw⟩
 rw [hw]
 clear hw w'
 go_wp2_with fail
 refine (kn_num _ _).mono ?_
 rintro e w' ⟨rfl, hw⟩
 rw [hw]
 clear hw w'
 go_wp2_with fail
 refine (kn_num _ _).mono ?_
 rintro e w' ⟨rfl, hw⟩
 rw [hw]
 clear hw w'
 go_wp2_with fail
 refine (kn_num _ _).mono ?_
 rintro e w' ⟨rfl, hw⟩
 rw [hw]
 clear hw w'
 go_wp2_with fail
 refine (kn_num _ _).mono ?_
 rintro e w' ⟨rfl, hw⟩
 rw [hw]
 clear hw w'
 go_wp2_with fail
 refine (kn_num _ _).mono ?_
 rintro e w' ⟨rfl, hw⟩
 rw [hw]
 clear hw w'
 go_wp2_with fail
 refine (kn_num _ _).mono ?_
 rintro e w' ⟨rfl, hw⟩
 rw [hw]
 clear hw w'
 go_wp2_with fail
 clear y0 y1 y2 u0 u1 u2
 refine (kn_sm a8 c8 a6 c6 _ (CX12.out.below (HC.out.to w12 (by simp)) rfl) (CU12.out.below (HC.out.to w12 (by simp)) rfl)).mono ?_
 rintro e w17 ⟨rfl, hb⟩
 replace HC := Lib.hid (HC.out.push hb)
 clear hb
 have U17 := Lib.hid (boxStays U12.out (HC.out.to w12 (by simp)))
 have u2 := cell_of_row _ _ 2 _ _ _ U17.out
 obtain ⟨bu, ou, rfl, cu⟩ := els_get (CU12.out.below (HC.out.to w12 (by simp)) rfl) 0 (by decide)
 obtain ⟨p0, p1, p2, p3, p4, p5⟩ := cu
 have p5' : w17.cell? ⟨bu, ou + 5, none⟩ = some (.string ⟨#[121]⟩) := by simpa [tY] using p5
 clear p0 p1 p2 p3 p4 p5
 go_wp2_with fail
 clear u2 p5'
 obtain ⟨w18, hw18⟩ : ∃ W, w17.alloc (.cells #[.string ⟨#[120]⟩, .string ⟨#[121]⟩] 9) = W := ⟨_, rfl⟩
 have hb : Below w17.heap.size w17 w18 := by rw [← hw18]; exact below_new _ _
 have CB := Lib.hid (cellsAt_made (vs := [.string ⟨#[120]⟩, .string ⟨#[121]⟩]) hw18.symm)
 rw [hw18]
 clear hw18
 replace HC := Lib.hid (HC.out.push hb)
 clear hb
 refine (kn_stx aT cT _ 2 _ (CT12.out.below (HC.out.to w12 (by simp)) rfl) CB.out).mono ?_
 rintro e w19 ⟨rfl, hb⟩
 replace HC := Lib.hid (HC.out.push hb)
 clear hb
 go_wp2_with fail
 refine (kn_Word2 _).mono ?_
 rintro e w20 ⟨rfl, hb⟩
 replace HC := Lib.hid (HC.out.push hb)
 clear hb
 go_wp2_with fail
 refine (kn_DoWord6 _).mono ?_
 rintro e w21 ⟨rfl, hb⟩
 replace HC := Lib.hid (HC.out.push hb)
 clear hb
 go_wp2_with fail
 refine (kn_chk _ (G12.out.below (HC.out.to w12 (by simp)))).mono ?_
 rintro e w22 ⟨rfl, hb⟩
 replace HC := Lib.hid (HC.out.push hb)
 clear hb
 go_wp2_with fail
 refine (kn_num _ _).mono ?_
 rintro e w' ⟨rfl, hw⟩
 rw [hw]
 clear hw w'
 go_wp2_with fail
 go_ret
 exact ⟨rfl, BB12.out.trans ((HC.out.to w12 (by simp)).mono BB12.out.size)⟩
end Go.Proofs.YtjlliohjeiclaaaGreatDoor
