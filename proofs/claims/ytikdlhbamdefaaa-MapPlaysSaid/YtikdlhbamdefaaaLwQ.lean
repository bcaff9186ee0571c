
/- Walks: lists of entries whose rows are known; a state of MapPlays. -/
import Derived.Test.YtikdlhbamdefaaaLwO
namespace Go.Proofs.Ytikdlhbamdefaaa
open Go.RowKit Pm
/-- A slice of entries, in a row of its own. -/
def EntT (w : World) (v : Value) (l : List (ByteArray × Int)) : Prop := ∃ base n, w.ownsRow base 47 2 v n (entV l)
theorem EntT.own {w : World} {base n : Nat} {v : Value} {l : List (ByteArray × Int)} (h : w.ownsRow base 47 2 v n (entV l)) : EntT w v l := ⟨base, n, h⟩
theorem EntT.at {w : World} {v : Value} {l : List (ByteArray × Int)} (h : EntT w v l) : EntAt w v l := by
  obtain ⟨base, n, h⟩ := h
  exact EntAt.own h
theorem EntT.nil (w : World) : EntT w (.slice none 0 0) [] := ⟨0, 0, World.ownsRow_nil _ _ _ _⟩
theorem EntT.below {w w' : World} {v : Value} {l : List (ByteArray × Int)} (h : EntT w v l) (hb : Below w.heap.size w w') : EntT w' v l := by
  obtain ⟨base, n, h⟩ := h
  exact ⟨base, n, own_later h hb (Nat.le_refl _)⟩
/-- Rows of unlike types lie apart. -/
theorem own_apart {w : World} {b b' s s' n n' : Nat} {e e' : TypeId} {v v' : Value} {xs xs' : List Value} (h : w.ownsRow b e s v n xs) (h' : w.ownsRow b' e' s' v' n' xs') (hne : e ≠ e') : ∀ k, v.ownBlock = some k → v'.ownBlock ≠ some k := by
  intro k hk hk'
  rcases h.2 with ⟨hv, _⟩ | ⟨g, cap, cur, hv, _, hg, _⟩
  · subst hv; cases hk
  · rcases h'.2 with ⟨hv', _⟩ | ⟨g', cap', cur', hv', _, hg', _⟩
    · subst hv'; cases hk'
    · subst hv; subst hv'
      cases hk; cases hk'
      rw [hg] at hg'
      cases hg'
      exact hne rfl
theorem EntT.grown {w w' : World} {v : Value} {l : List (ByteArray × Int)} (h : EntT w v l) {b s n : Nat} {e : TypeId} {v2 : Value} {xs : List Value} (h2 : w.ownsRow b e s v2 n xs) (hg : w.grownBy w' v2.ownBlock) (hne : 47 ≠ e) : EntT w' v l := by
  obtain ⟨base, m, h⟩ := h
  exact ⟨base, m, own_grown h hg (fun k hk => own_apart h h2 hne k hk)⟩
theorem own_setBox {w : World} {b s n : Nat} {e t : TypeId} {v u0 : Value} {xs : List Value} (h : w.ownsRow b e s v n xs) {B : Nat} {cs : Array Value} {fr : Nat × Nat} (hB : w.heap[B]? = some (.cells cs t fr)) (hne : e ≠ t) (i : Nat) (u : Value) : (w.setCell ⟨B, i, none⟩ u).ownsRow b e s v n xs := by
  refine ⟨h.1, ?_⟩
  rcases h.2 with h1 | ⟨g, cap, cur, hv, hb, hg, hr⟩
  · exact .inl h1
  · refine .inr ⟨g, cap, cur, hv, hb, ?_, hr⟩
    have hgB : g ≠ B := by intro e1; subst e1; rw [hg] at hB; cases hB; exact hne rfl
    rw [Below.heap_setCell _ _ _ _ (by simpa using hgB)]
    exact hg
theorem EntT.setBox {w : World} {v : Value} {l : List (ByteArray × Int)} (h : EntT w v l) {B : Nat} {t : TypeId} {cs : Array Value} {fr : Nat × Nat} (hB : w.heap[B]? = some (.cells cs t fr)) (hne : 47 ≠ t) (i : Nat) (u : Value) : EntT (w.setCell ⟨B, i, none⟩ u) v l := by
  obtain ⟨base, n, h⟩ := h
  exact ⟨base, n, own_setBox (u0 := u) h hB hne i u⟩
theorem AtI.grown {w w' : World} {t : Tr Int} (h : AtI w t) {b s n : Nat} {e : TypeId} {v2 : Value} {xs : List Value} (h2 : w.ownsRow b e s v2 n xs) (hg : w.grownBy w' v2.ownBlock) (hne : e ≠ 76) : AtI w' t := by
  refine h.keep fun k o hk hkt => ?_
  have hn : v2.ownBlock ≠ some k := by
    intro hv
    rcases h2.2 with ⟨hv2, _⟩ | ⟨g, cap, cur, hv2, _, hgc, _⟩
    · subst hv2; cases hv
    · subst hv2; cases hv
      exact h.other hgc hne hkt
  exact (hg.block k (Array.getElem?_eq_some_iff.1 hk).1 (fun e => hn e.symm)).trans hk
theorem lastLt_of {l : List (ByteArray × Int)} {k : ByteArray} (h : ∀ y ∈ l, klt y.1 k = true) : lastLt l k = true := by
  unfold lastLt
  cases hg : l[l.length - 1]? with
  | none => rfl
  | some y => exact h y (List.mem_of_getElem? hg)
theorem ltFirst_of {l : List (ByteArray × Int)} {k : ByteArray} (h : ∀ y ∈ l, klt k y.1 = true) : ltFirst k l = true := by
  unfold ltFirst
  cases hg : l[0]? with
  | none => rfl
  | some y => exact h y (List.mem_of_getElem? hg)
/-! ### What Split says of lists -/
theorem split_keys {N : Nat} {k : ByteArray} {t a x c : Tr Int} (h : SplitR N k t a x c) (hs : Srt (items t)) : (∀ y ∈ items a, klt y.1 k = true) ∧ (∀ y ∈ items c, klt k y.1 = true) := by
  induction h with
  | nil => exact ⟨(fun y hy => by cases hy), (fun y hy => by cases hy)⟩
  | lt h1 h2 h3 ih =>
    obtain ⟨s1, s2, s3⟩ := srt_append.1 hs
    obtain ⟨s4, s5⟩ := srt_cons.1 s2
    obtain ⟨i1, i2⟩ := ih s1
    refine ⟨i1, fun y hy => ?_⟩
    rw [h3.items] at hy
    rcases List.mem_append.1 hy with hy | hy
    · exact i2 y hy
    · rcases List.mem_cons.1 hy with rfl | hy
      · exact h1
      · exact klt_trans h1 (s4 y hy)
  | gt h1 h2 h3 ih =>
    obtain ⟨s1, s2, s3⟩ := srt_append.1 hs
    obtain ⟨s4, s5⟩ := srt_cons.1 s2
    obtain ⟨i1, i2⟩ := ih s5
    refine ⟨fun y hy => ?_, i2⟩
    rw [h3.items] at hy
    rcases List.mem_append.1 hy with hy | hy
    · exact klt_trans (s3 y hy _ List.mem_cons_self) h1
    · rcases List.mem_cons.1 hy with rfl | hy
      · exact h1
      · exact i1 y hy
  | eq h1 =>
    obtain ⟨s1, s2, s3⟩ := srt_append.1 hs
    obtain ⟨s4, s5⟩ := srt_cons.1 s2
    subst h1
    exact ⟨fun y hy => s3 y hy _ List.mem_cons_self, s4⟩
theorem split_list {N : Nat} {k : ByteArray} {t a x c : Tr Int} (h : SplitR N k t a x c) (hs : Srt (items t)) :
    posL (items t) k = sz a ∧ isL (items t) k = isNI x ∧ items a = (items t).take (sz a) ∧ items c = (items t).drop (if isNI x then sz a + 1 else sz a) ∧ joinOKI a k c ∧ Srt (items a) ∧ Srt (items c) ∧
      (isNI x = true → (items t)[sz a]? = some (k, valOr x)) ∧ (isNI x = false → valOr x = 0) := by
  obtain ⟨k1, k2⟩ := split_keys h hs
  have hi := h.items
  have hx := h.seek
  have hcase : (x = .nil ∧ items t = items a ++ items c) ∨ (∃ b l v r, x = .node b l k v r ∧ items t = items a ++ (k, v) :: items c) := by
    cases hxx : x with
    | nil => left; rw [hxx] at hi; simpa [here] using hi
    | node b l k0 v r =>
      right
      rw [hxx] at hi hx
      obtain ⟨rfl, _⟩ := seek_some hx.symm
      exact ⟨b, l, v, r, rfl, by simpa [here] using hi⟩
  have hpos : posL (items t) k = sz a := by
    refine posL_take _ _ _ (by rw [hi]; simp [sz_items]) (fun y hy => ?_) (fun y hy => ?_)
    · rcases hcase with ⟨_, e⟩ | ⟨b, l, v, r, _, e⟩
      all_goals
        rw [e, List.take_append_of_le_length (by rw [sz_items]; exact Nat.le_refl _)] at hy
        exact k1 y (List.mem_of_mem_take hy)
    · rcases hcase with ⟨_, e⟩ | ⟨b, l, v, r, _, e⟩
      · rw [e, List.getElem?_append_right (by rw [sz_items]; exact Nat.le_refl _)] at hy
        exact klt_asymm (k2 y (List.mem_of_getElem? hy))
      · rw [e, List.getElem?_append_right (by rw [sz_items]; exact Nat.le_refl _), sz_items, Nat.sub_self] at hy
        cases hy
        exact klt_irrefl k
  have hso := hs
  rcases hcase with ⟨rfl, e⟩ | ⟨b, l, v, r, rfl, e⟩
  · have ha : items a = (items t).take (sz a) := by rw [e, List.take_append_of_le_length (by rw [sz_items]; exact Nat.le_refl _), List.take_of_length_le (by rw [sz_items]; exact Nat.le_refl _)]
    have hc : items c = (items t).drop (sz a) := by rw [e, List.drop_append_of_le_length (by rw [sz_items]; exact Nat.le_refl _), List.drop_of_length_le (by rw [sz_items]; exact Nat.le_refl _)]; rfl
    have sa : Srt (items a) := by rw [e] at hs; exact (srt_append.1 hs).1
    have sc : Srt (items c) := by rw [e] at hs; exact (srt_append.1 hs).2.1
    refine ⟨hpos, ?_, ha, hc, ?_, sa, sc, (fun h => by cases h), fun _ => rfl⟩
    · unfold isL
      rw [hpos]
      cases hg : (items t)[sz a]? with
      | none => rfl
      | some y =>
        rw [e, List.getElem?_append_right (by rw [sz_items]; exact Nat.le_refl _)] at hg
        have := klt_ne (k2 y (List.mem_of_getElem? hg))
        simp [Ne.symm this, isNI]
    · refine (join_ok_iff a c k).2 ?_
      rw [Bool.and_eq_true]
      exact ⟨lastLt_of k1, ltFirst_of k2⟩
  · have ha : items a = (items t).take (sz a) := by rw [e, List.take_append_of_le_length (by rw [sz_items]; exact Nat.le_refl _), List.take_of_length_le (by rw [sz_items]; exact Nat.le_refl _)]
    have hc : items c = (items t).drop (sz a + 1) := by
      rw [e, show sz a + 1 = (items a).length + 1 by rw [sz_items], List.drop_append]
      simp
    have sa : Srt (items a) := by rw [e] at hs; exact (srt_append.1 hs).1
    have sc : Srt (items c) := by rw [e] at hs; exact (srt_cons.1 (srt_append.1 hs).2.1).2
    have hg : (items t)[sz a]? = some (k, v) := by rw [e, List.getElem?_append_right (by rw [sz_items]; exact Nat.le_refl _), sz_items, Nat.sub_self]; rfl
    refine ⟨hpos, ?_, ha, hc, ?_, sa, sc, (fun _ => hg), fun h => by cases h⟩
    · unfold isL
      rw [hpos, hg]
      simp [isNI]
    · refine (join_ok_iff a c k).2 ?_
      rw [Bool.and_eq_true]
      exact ⟨lastLt_of k1, ltFirst_of k2⟩
set_option maxRecDepth 20000 in
set_option maxHeartbeats 1000000 in
theorem lw_put2 (l : List (ByteArray × Int)) (k : ByteArray) (v : Int) (va : Value) (w : World) (h : EntAt w va l) (hl : l.length ≤ 1073741824) :
    Calls Try.prog 10 #[va, .string k, .int .i64 v] w fun e w' => ∃ v', e = .returned v' ∧ EntT w' v' (ins k v l) ∧ Below w.heap.size w w' := by
  obtain ⟨a, cap, rfl, hcap, hcm, hc⟩ := h
  have ET := Lib.hid entT
  have H := Lib.hid hc; clear hc
  have hpl := posL_le l k
  have HP := Lib.hid (ins_pos l k v)
  obtain ⟨p, hp⟩ : ∃ p, posL l k = p := ⟨_, rfl⟩
  obtain ⟨q, hq⟩ : ∃ q, isL l k = q := ⟨_, rfl⟩
  have AT := fun (W : World) (hb : Below w.heap.size w W) => lw_at l k a cap W (H.out.below hb rfl) (by omega)
  rw [hp, hq] at AT HP
  rw [hp] at hpl
  have hpi : q = true → p < l.length := by
    intro h; subst h
    obtain ⟨x, hx⟩ := isL_true hq
    rw [hp] at hx
    exact (List.getElem?_eq_some_iff.1 hx).1
  have HPI := Lib.hid hpi
  have HAT := Lib.hid AT
  clear hp hq AT hpi
  obtain ⟨n, hn⟩ : ∃ n, l.length = n := ⟨_, rfl⟩
  have HN := Lib.hid hn
  rw [hn] at hpl hcap hl HAT HPI ⊢
  clear hn
  unfold maxLen at hcm
  obtain ⟨r, hr⟩ : ∃ r : Nat, r = if q then p + 1 else p := ⟨_, rfl⟩
  have hrn : r ≤ n := by rw [hr]; split; exact HPI.out ‹_›; exact hpl
  have HRR : Hid (ins k v l = l.take p ++ (k, v) :: l.drop r) := Lib.hid (by rw [HP.out, hr])
  have hsl := fun (W : World) (x : Int) (hx : x = (r : Int)) => run_from (P := Try.prog) W 27 47 Try.underlying27 2 (fun w => by kernel_rfl) a n cap r x hx hrn
  obtain ⟨ar, har⟩ : ∃ ar, subN a cap r 2 = ar := ⟨_, rfl⟩
  have HAR := Lib.hid har
  rw [har] at hsl
  have hs3 : ∀ (W : World), Below w.heap.size w W → Src Try.prog 2 27 (.slice ar (n - r) (cap - r)) (n - r) (entV (l.drop r)) W := by
    intro W hb
    have h1 := (H.out.below hb rfl).from (size := 2) (len := n) (by rw [entV_length, HN.out]) cap r hrn hcap
    rw [HAR.out, ← entV_drop] at h1
    exact h1.src (by rw [entV_length, List.length_drop, HN.out]) (entV_one _) Try.underlying27 _ (Or.inr rfl)
  have SR3 := Lib.hid hs3
  have hsr : ∀ (W : World), (Instr.slice 27 (.slice a n cap) (some (.int .i64 (r : Int))) none none).run Try.prog W = .ok (.slice ar (n - r) (cap - r)) W := fun W => hsl W _ rfl
  clear hsl hs3 har
  cases q
  case' false =>
    have hrp : p = r := hr.symm
    subst hrp
  case' true =>
    have hrp : r = p + 1 := hr
    subst hrp
    have hsr1 : ∀ (W : World), (Instr.slice 27 (.slice a n cap) (some (.int .i64 ((p : Int) + 1))) none none).run Try.prog W = .ok (.slice ar (n - (p + 1)) (cap - (p + 1))) W := fun W => by have := hsr W; simpa using this
  all_goals
  clear hr HP
  go_enter Try.func10, Try.ntmps10
  go_wp2_with fail
  refine (HAT.out w (Below.refl _ _)).mono ?_
  rintro e w1 ⟨rfl, hb⟩
  have D1 := Lib.hid hb
  clear hb
  go_wp2_with (first
    | (at_builtin; refine wpList_app rfl _ _ 27 27 rfl w.heap.size 47 (.agg #[.string ⟨#[]⟩, .int .i64 0]) 2 24 ET.out v2 (p + 1) (entV (l.take p ++ [(k, v)])) rfl O2.out _ _ _ rfl (SR3.out _ D2.out) (by omega) (by omega) (by have := D2.out.size; omega) ?_; intro v3 w4 hown _ hb _; have O3 := Lib.hid hown; have D3 := Lib.hid (D2.out.trans hb); clear hown hb)
    | (at_builtin; refine wpList_app rfl _ _ 27 27 rfl w.heap.size 47 (.agg #[.string ⟨#[]⟩, .int .i64 0]) 2 24 ET.out v1 p (entV (l.take p)) rfl (O1.out.alloc _) _ 1 [.string k, .int .i64 v] rfl ((CellsAt.new w2 47 (0, 0) [.string k, .int .i64 v]).src rfl (by simp [Value.oneCell']) Try.underlying27 1 (Or.inr rfl)) (by omega) (by omega) (by have := D4.out.size; simp; omega) ?_; intro v2 w3 hown _ hb _; have O2 : Hid (w3.ownsRow w.heap.size 47 2 v2 (p + 1) (entV (l.take p ++ [(k, v)]))) := Lib.hid (by rw [entV_append]; exact hown); have D2 := Lib.hid ((D4.out.alloc D4.out.size (.cells #[.string k, .int .i64 v] 47)).trans hb); clear hown hb)
    | (at_builtin; refine wpList_app rfl _ _ 27 27 rfl w.heap.size 47 (.agg #[.string ⟨#[]⟩, .int .i64 0]) 2 24 ET.out (.slice none 0 0) 0 [] rfl (World.ownsRow_nil _ _ _ _) _ p (entV (l.take p)) rfl (by have h1 := (H.out.below D1.out rfl).take (p * 2); rw [← entV_take] at h1; exact h1.src (by rw [entV_length, List.length_take, HN.out]; congr 1; omega) (entV_one _) Try.underlying27 cap (Or.inr rfl)) (by omega) (by omega) D1.out.size ?_; intro v1 w2 hown _ hb _; rw [Nat.zero_add, List.nil_append] at hown; have O1 := Lib.hid hown; have D4 := Lib.hid (D1.out.trans hb); clear hown hb)
    | fail)
  go_ret
  refine ⟨v3, rfl, ?_, D3.out⟩
  rw [HRR.out]
  have := O3.out
  rw [← entV_append] at this
  exact EntT.own (by simpa using this)
set_option maxRecDepth 20000 in
set_option maxHeartbeats 1000000 in
theorem lw_take2 (l : List (ByteArray × Int)) (k : ByteArray) (va : Value) (w : World) (h0 : EntT w va l) (hl : l.length ≤ 1073741824) (hs : Srt l) :
    Calls Try.prog 8 #[va, .string k] w fun e w' => ∃ v', e = .returned v' ∧ EntT w' v' (del k l) ∧ Below w.heap.size w w' := by
  have h := h0.at
  have HE := Lib.hid h0
  obtain ⟨a, cap, rfl, hcap, hcm, hc⟩ := h
  clear h0
  have ET := Lib.hid entT
  have H := Lib.hid hc; clear hc
  have hpl := posL_le l k
  obtain ⟨p, hp⟩ : ∃ p, posL l k = p := ⟨_, rfl⟩
  obtain ⟨q, hq⟩ : ∃ q, isL l k = q := ⟨_, rfl⟩
  have AT := fun (W : World) (hb : Below w.heap.size w W) => lw_at l k a cap W (H.out.below hb rfl) (by omega)
  have HP : Hid (del k l = if q then l.take p ++ l.drop (p + 1) else l) := Lib.hid (by
    by_cases hi : isL l k = true
    · rw [if_pos (by rw [← hq]; exact hi), del_pos hs hi, hp]
    · rw [if_neg (by rw [← hq]; exact hi)]
      exact del_none (isL_false hs (by simpa using hi)))
  rw [hp, hq] at AT
  rw [hp] at hpl
  have hpi : q = true → p + 1 ≤ l.length := by
    intro h; subst h
    obtain ⟨x, hx⟩ := isL_true hq
    rw [hp] at hx
    exact (List.getElem?_eq_some_iff.1 hx).1
  have HAT := Lib.hid AT
  clear hp hq AT
  obtain ⟨n, hn⟩ : ∃ n, l.length = n := ⟨_, rfl⟩
  have HN := Lib.hid hn
  rw [hn] at hpl hcap hl HAT hpi HE ⊢
  clear hn
  unfold maxLen at hcm
  cases q
  · clear hpi
    go_enter Try.func8, Try.ntmps8
    go_wp2_with fail
    refine (HAT.out w (Below.refl _ _)).mono ?_
    rintro e w1 ⟨rfl, hb⟩
    have D1 := Lib.hid hb
    clear hb
    go_wp2_with fail
    go_ret
    refine ⟨_, rfl, ?_, D1.out⟩
    rw [HP.out]
    exact HE.out.below D1.out
  · have hrn : p + 1 ≤ n := hpi rfl
    clear hpi
    have HRR : Hid (del k l = l.take p ++ l.drop (p + 1)) := Lib.hid (by rw [HP.out]; rfl)
    have hsl := fun (W : World) (x : Int) (hx : x = ((p + 1 : Nat) : Int)) => run_from (P := Try.prog) W 27 47 Try.underlying27 2 (fun w => by kernel_rfl) a n cap (p + 1) x hx hrn
    obtain ⟨ar, har⟩ : ∃ ar, subN a cap (p + 1) 2 = ar := ⟨_, rfl⟩
    have HAR := Lib.hid har
    rw [har] at hsl
    have hs3 : ∀ (W : World), Below w.heap.size w W → Src Try.prog 2 27 (.slice ar (n - (p + 1)) (cap - (p + 1))) (n - (p + 1)) (entV (l.drop (p + 1))) W := by
      intro W hb
      have h1 := (H.out.below hb rfl).from (size := 2) (len := n) (by rw [entV_length, HN.out]) cap (p + 1) hrn hcap
      rw [HAR.out, ← entV_drop] at h1
      exact h1.src (by rw [entV_length, List.length_drop, HN.out]) (entV_one _) Try.underlying27 _ (Or.inr rfl)
    have SR3 := Lib.hid hs3
    have hsr1 : ∀ (W : World), (Instr.slice 27 (.slice a n cap) (some (.int .i64 ((p : Int) + 1))) none none).run Try.prog W = .ok (.slice ar (n - (p + 1)) (cap - (p + 1))) W := fun W => hsl W _ (by simp)
    clear hsl hs3 har HP HE
    go_enter Try.func8, Try.ntmps8
    go_wp2_with fail
    refine (HAT.out w (Below.refl _ _)).mono ?_
    rintro e w1 ⟨rfl, hb⟩
    have D1 := Lib.hid hb
    clear hb
    go_wp2_with (first
      | (at_builtin; refine wpList_app rfl _ _ 27 27 rfl w.heap.size 47 (.agg #[.string ⟨#[]⟩, .int .i64 0]) 2 24 ET.out v1 p (entV (l.take p)) rfl O1.out _ _ _ rfl (SR3.out _ D4.out) (by omega) (by omega) (by have := D4.out.size; omega) ?_; intro v3 w4 hown _ hb _; have O3 := Lib.hid hown; have D3 := Lib.hid (D4.out.trans hb); clear hown hb)
      | (at_builtin; refine wpList_app rfl _ _ 27 27 rfl w.heap.size 47 (.agg #[.string ⟨#[]⟩, .int .i64 0]) 2 24 ET.out (.slice none 0 0) 0 [] rfl (World.ownsRow_nil _ _ _ _) _ p (entV (l.take p)) rfl (by have h1 := (H.out.below D1.out rfl).take (p * 2); rw [← entV_take] at h1; exact h1.src (by rw [entV_length, List.length_take, HN.out]; congr 1; omega) (entV_one _) Try.underlying27 cap (Or.inr rfl)) (by omega) (by omega) D1.out.size ?_; intro v1 w2 hown _ hb _; rw [Nat.zero_add, List.nil_append] at hown; have O1 := Lib.hid hown; have D4 := Lib.hid (D1.out.trans hb); clear hown hb)
      | fail)
    go_ret
    refine ⟨v3, rfl, ?_, D3.out⟩
    rw [HRR.out]
    have := O3.out
    rw [← entV_append] at this
    exact EntT.own this
end Go.Proofs.Ytikdlhbamdefaaa
