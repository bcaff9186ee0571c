
/- Walks of law 08, plain: how many keys stay. -/
import Derived.Test.YtdodkhhlbjamhaaWlF
namespace Go.Proofs.Ytdodkhhlbjamhaa
open Go.RowKit Pm
/-- Whether a key is to stay. -/
def wantB (s a b : Tr Int) (k : ByteArray) : Bool := staysF (lk 0 (items s) k) (lk 0 (items a) k) (lk 0 (items b) k)
/-- Whether it comes for the first time. -/
def firstB (L : List ByteArray) (i : Nat) : Bool := (L.take i).all fun k => decide (k ≠ L.getD i ⟨#[]⟩)
def cntF (s a b : Tr Int) (L : List ByteArray) (i : Nat) : Nat := ((List.range i).filter fun j => wantB s a b (L.getD j ⟨#[]⟩) && firstB L j).length
theorem cntF_le (s a b : Tr Int) (L : List ByteArray) (i : Nat) : cntF s a b L i ≤ i := by
  unfold cntF
  refine Nat.le_trans (List.length_filter_le _ _) ?_
  simp
theorem cntF_succ (s a b : Tr Int) (L : List ByteArray) (i : Nat) : cntF s a b L (i + 1) = cntF s a b L i + if (wantB s a b (L.getD i ⟨#[]⟩) && firstB L i) = true then 1 else 0 := by
  unfold cntF
  rw [List.range_succ, List.filter_append, List.length_append, List.filter_cons]
  split <;> simp_all
/-- What all parts of a round have. -/
theorem el_row {v : Int} {b1 b2 b3 wt : Bool} {p q r x y k : Int × Bool} (h1 : p = (if b1 = true then v else 0, b1)) (h2 : q = (if b2 = true then v else 0, b2)) (h3 : r = (if b3 = true then v else 0, b3))
    (hx : x = nrm 0 (keepFI p q r)) (hy : y = nrm 0 (keepFI p r q)) (hk : keepFI p q r = k) (hw : staysF p q r = wt) :
    x.2 = wt ∧ y.2 = wt ∧ k.2 = wt ∧ (wt = true → x.1 = v ∧ y.1 = v ∧ k.1 = v) ∧ (wt = false → k.1 = 0) := by
  subst h1 h2 h3 hx hy hk hw
  cases b1 <;> cases b2 <;> cases b3 <;> simp [keepFI, staysF, nrm]
def frB (L : List ByteArray) (i k : Nat) : Bool := (L.take k).all fun x => decide (x ≠ L.getD i ⟨#[]⟩)
theorem frB_succ {L : List ByteArray} {i k : Nat} {x q : ByteArray} (hx : L[k]? = some x) (hq : L[i]? = some q) : frB L i (k + 1) = (frB L i k && decide (x ≠ q)) := by
  unfold frB
  have hlt := (List.getElem?_eq_some_iff.1 hx).1
  rw [List.take_succ_eq_append_getElem hlt, List.all_append, (List.getElem?_eq_some_iff.1 hx).2, List.getD_eq_getElem?_getD, hq]
  simp
theorem lk_iff {l : List (ByteArray × Int)} {k : ByteArray} : (lk 0 l k).2 = true ↔ ∃ x ∈ l, x.1 = k := by
  induction l with
  | nil => simp [lk]
  | cons x l ih =>
    simp only [lk]
    by_cases h : x.1 = k
    · rw [if_pos h]
      exact ⟨fun _ => ⟨x, List.mem_cons_self, h⟩, fun _ => rfl⟩
    · rw [if_neg h, ih]
      constructor
      · rintro ⟨y, h1, h2⟩; exact ⟨y, List.mem_cons_of_mem _ h1, h2⟩
      · rintro ⟨y, h1, h2⟩
        rcases List.mem_cons.1 h1 with rfl | h1
        · exact absurd h2 h
        · exact ⟨y, h1, h2⟩
theorem nodup_le {α : Type} [DecidableEq α] : ∀ (l l' : List α), l.Nodup → (∀ x ∈ l, x ∈ l') → l.length ≤ l'.length
  | [], _, _, _ => Nat.zero_le _
  | x :: l, l', hn, hs => by
    obtain ⟨h1, h2⟩ := List.nodup_cons.1 hn
    have hx := hs x List.mem_cons_self
    have := nodup_le l (l'.erase x) h2 fun y hy => (List.mem_erase_of_ne (fun e => h1 (by rw [← e]; exact hy))).2 (hs y (List.mem_cons_of_mem _ hy))
    rw [List.length_erase_of_mem hx] at this
    have h3 := List.length_pos_of_mem hx
    simp only [List.length_cons]
    omega
theorem first_ex (L : List ByteArray) (x : ByteArray) : ∀ j : Nat, L[j]? = some x → ∃ j, j < L.length ∧ L.getD j ⟨#[]⟩ = x ∧ firstB L j = true := by
  intro j
  induction j using Nat.strongRecOn with
  | _ j ih =>
    intro hj
    have hx : L.getD j ⟨#[]⟩ = x := by rw [List.getD_eq_getElem?_getD, hj]; rfl
    cases hf : firstB L j with
    | true => exact ⟨j, (List.getElem?_eq_some_iff.1 hj).1, hx, hf⟩
    | false =>
      unfold firstB at hf
      rw [List.all_eq_false] at hf
      obtain ⟨y, hy, he⟩ := hf
      obtain ⟨k, hk⟩ := List.mem_iff_getElem?.1 hy
      have hkj : k < j := by
        have := (List.getElem?_eq_some_iff.1 hk).1
        simp at this; omega
      rw [List.getElem?_take_of_lt hkj] at hk
      have hyx : y = x := by rw [hx] at he; simpa using he
      exact ih k hkj (hyx ▸ hk)
theorem cnt_sz {s a b m : Tr Int} (hm : ∀ k, (lk 0 (items m) k).2 = wantB s a b k) (hs : Srt (items m)) : cntF s a b (keysL [s, a, b]) (keysL [s, a, b]).length = sz m := by
  obtain ⟨L, hL⟩ : ∃ L, keysL [s, a, b] = L := ⟨_, rfl⟩
  rw [hL]
  obtain ⟨F, hF⟩ : ∃ F, (List.range L.length).filter (fun j => wantB s a b (L.getD j ⟨#[]⟩) && firstB L j) = F := ⟨_, rfl⟩
  have hFm : ∀ j ∈ F, j < L.length ∧ wantB s a b (L.getD j ⟨#[]⟩) = true ∧ firstB L j = true := fun j hj => by
    rw [← hF, List.mem_filter] at hj
    simp only [Bool.and_eq_true] at hj
    exact ⟨List.mem_range.1 hj.1, hj.2.1, hj.2.2⟩
  have hD : (F.map fun j => L.getD j ⟨#[]⟩).Nodup := by
    unfold List.Nodup
    rw [List.pairwise_map]
    refine List.Pairwise.imp_of_mem (R := fun x y => x < y) ?_ (by rw [← hF]; exact List.pairwise_lt_range.filter _)
    intro j j' h1 h2 hlt e
    have hj := hFm j h1
    have hj' := (hFm j' h2).2.2
    unfold firstB at hj'
    have hmem : L.getD j ⟨#[]⟩ ∈ L.take j' := by
      refine List.mem_iff_getElem?.2 ⟨j, ?_⟩
      rw [List.getElem?_take_of_lt hlt, List.getD_eq_getElem?_getD, List.getElem?_eq_getElem hj.1]
      rfl
    have := List.all_eq_true.1 hj' _ hmem
    exact of_decide_eq_true this e
  have hK : ((items m).map (·.1)).Nodup := by
    unfold List.Nodup
    rw [List.pairwise_map]
    exact List.Pairwise.imp (fun h => klt_ne h) hs
  have hi : ∀ k, k ∈ (items m).map (·.1) ↔ wantB s a b k = true := fun k => by
    rw [← hm k, lk_iff, List.mem_map]
  have e1 := nodup_le _ _ hD (fun x hx => by
    obtain ⟨j, hj, rfl⟩ := List.mem_map.1 hx
    exact (hi _).2 (hFm j hj).2.1)
  have e2 := nodup_le _ (F.map fun j => L.getD j ⟨#[]⟩) hK (fun x hx => by
    have hw := (hi x).1 hx
    have hx2 : x ∈ L := by
      rw [← hL]
      unfold wantB at hw
      simp only [keysL, List.map_cons, List.map_nil, List.flatten_cons, List.flatten_nil, List.append_nil, List.mem_append, List.mem_map]
      rw [← lk_iff, ← lk_iff, ← lk_iff]
      generalize lk 0 (items s) x = p at *
      generalize lk 0 (items a) x = q at *
      generalize lk 0 (items b) x = r at *
      obtain ⟨p1, p2⟩ := p
      obtain ⟨q1, q2⟩ := q
      obtain ⟨r1, r2⟩ := r
      cases p2 <;> cases q2 <;> cases r2 <;> simp_all [staysF]
    obtain ⟨j0, hj0⟩ := List.mem_iff_getElem?.1 hx2
    obtain ⟨j, h1, h2, h3⟩ := first_ex L x j0 hj0
    refine List.mem_map.2 ⟨j, ?_, h2⟩
    rw [← hF, List.mem_filter]
    exact ⟨List.mem_range.2 h1, by rw [h2, hw, h3]; rfl⟩)
  simp only [List.length_map] at e1 e2
  rw [sz_items] at e1 e2
  unfold cntF
  rw [hF]
  omega
end Go.Proofs.Ytdodkhhlbjamhaa

