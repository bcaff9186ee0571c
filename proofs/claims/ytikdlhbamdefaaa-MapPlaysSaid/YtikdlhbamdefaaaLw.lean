
/- Plain: the lists that the law of layer 7 keeps. -/
import Derived.Test.YtikdlhbamdefaaaTr2
import Derived.Test.YtikdlhbamdefaaaCells
import Derived.Test.YtikdlhbamdefaaaMem2
namespace Go.Proofs.Ytikdlhbamdefaaa
open Go.RowKit Pm
namespace Pm
section
variable {α : Type}
/-- Where a key is in a list, or would be. -/
def posL (l : List (ByteArray × α)) (k : ByteArray) : Nat := (l.takeWhile fun x => klt x.1 k).length
def isL (l : List (ByteArray × α)) (k : ByteArray) : Bool := match l[posL l k]? with | some x => decide (x.1 = k) | none => false
theorem posL_le (l : List (ByteArray × α)) (k : ByteArray) : posL l k ≤ l.length := by
  unfold posL; exact (List.takeWhile_prefix _).length_le
theorem posL_take (l : List (ByteArray × α)) (k : ByteArray) (j : Nat) (hj : j ≤ l.length) (h : ∀ x ∈ l.take j, klt x.1 k = true) (hn : ∀ x, l[j]? = some x → klt x.1 k = false) : posL l k = j := by
  unfold posL
  induction l generalizing j with
  | nil => simp at hj; simp [hj]
  | cons y l ih =>
    cases j with
    | zero =>
      have := hn y rfl
      simp [List.takeWhile_cons, this]
    | succ j =>
      have hy := h y (by simp)
      rw [List.takeWhile_cons, if_pos hy, List.length_cons, ih j (by simpa using hj) (fun x hx => h x (by simp [hx])) (fun x hx => hn x (by simpa using hx))]
theorem ins_pos (l : List (ByteArray × α)) (k : ByteArray) (v : α) : ins k v l = l.take (posL l k) ++ (k, v) :: l.drop (if isL l k then posL l k + 1 else posL l k) := by
  induction l with
  | nil => simp [ins, posL, isL]
  | cons y l ih =>
    simp only [ins]
    by_cases h1 : klt k y.1 = true
    · have h2 : klt y.1 k = false := klt_asymm h1
      have hp : posL (y :: l) k = 0 := by simp [posL, List.takeWhile_cons, h2]
      have hi : isL (y :: l) k = false := by unfold isL; rw [hp]; simpa using Ne.symm (klt_ne h1)
      rw [if_pos h1, hp, hi]; simp
    · rw [if_neg h1]
      by_cases h2 : klt y.1 k = true
      · have hp : posL (y :: l) k = posL l k + 1 := by simp [posL, List.takeWhile_cons, h2]
        have hi : isL (y :: l) k = isL l k := by unfold isL; rw [hp]; simp
        rw [if_pos h2, ih, hp, hi]
        cases isL l k <;> simp
      · rw [if_neg h2]
        have e := klt_tri (by simpa using h1) (by simpa using h2)
        have hp : posL (y :: l) k = 0 := by simp [posL, List.takeWhile_cons, h2]
        have hi : isL (y :: l) k = true := by unfold isL; rw [hp]; simp [e]
        rw [hp, hi]; simp
theorem isL_false {l : List (ByteArray × α)} {k : ByteArray} (hs : Srt l) (h : isL l k = false) : ∀ x ∈ l, x.1 ≠ k := by
  induction l with
  | nil => intro x hx; cases hx
  | cons y l ih =>
    obtain ⟨s1, s2⟩ := srt_cons.1 hs
    intro x hx
    by_cases h2 : klt y.1 k = true
    · have hp : posL (y :: l) k = posL l k + 1 := by simp [posL, List.takeWhile_cons, h2]
      have hi : isL (y :: l) k = isL l k := by unfold isL; rw [hp]; simp
      rcases List.mem_cons.1 hx with rfl | hx
      · exact klt_ne h2
      · exact ih s2 (by rw [← hi]; exact h) x hx
    · have hp : posL (y :: l) k = 0 := by simp [posL, List.takeWhile_cons, h2]
      have hi : isL (y :: l) k = decide (y.1 = k) := by unfold isL; rw [hp]; rfl
      rw [hi] at h
      have hne : y.1 ≠ k := by simpa using h
      have hlt : klt k y.1 = true := by
        cases h3 : klt k y.1 with
        | true => rfl
        | false => exact absurd (klt_tri (by simpa using h2) h3) hne
      rcases List.mem_cons.1 hx with rfl | hx
      · exact hne
      · exact Ne.symm (klt_ne (klt_trans hlt (s1 x hx)))
theorem isL_true {l : List (ByteArray × α)} {k : ByteArray} (h : isL l k = true) : ∃ v, l[posL l k]? = some (k, v) := by
  unfold isL at h
  cases e : l[posL l k]? with
  | none => rw [e] at h; cases h
  | some x => rw [e] at h; have : x.1 = k := by simpa using h
              exact ⟨x.2, by rw [← this]⟩
theorem del_pos {l : List (ByteArray × α)} {k : ByteArray} (hs : Srt l) (h : isL l k = true) : del k l = l.take (posL l k) ++ l.drop (posL l k + 1) := by
  obtain ⟨v, hv⟩ := isL_true h
  obtain ⟨hlt, he⟩ := List.getElem?_eq_some_iff.1 hv
  have hsp : l = l.take (posL l k) ++ (k, v) :: l.drop (posL l k + 1) := by
    conv => lhs; rw [← List.take_append_drop (posL l k) l]
    rw [List.drop_eq_getElem_cons hlt, he]
  have hs' := hs
  rw [hsp] at hs'
  obtain ⟨s1, s2, s3⟩ := srt_append.1 hs'
  obtain ⟨s4, s5⟩ := srt_cons.1 s2
  conv => lhs; rw [hsp]
  rw [del_append, del_here, del_none (fun x hx => klt_ne (s3 x hx _ List.mem_cons_self)), del_none (fun x hx => Ne.symm (klt_ne (s4 x hx)))]
end
end Pm
/-- The cells of entries. -/
def entV (l : List (ByteArray × Int)) : List Value := l.flatMap fun x => [Value.string x.1, Value.int .i64 x.2]
theorem entV_append (a b : List (ByteArray × Int)) : entV (a ++ b) = entV a ++ entV b := by simp [entV]
theorem entV_length (a : List (ByteArray × Int)) : (entV a).length = a.length * 2 := by
  induction a with
  | nil => rfl
  | cons x r ih => simp only [entV, List.flatMap_cons, List.length_append] at ih ⊢; rw [ih]; simp; omega
theorem entV_one (a : List (ByteArray × Int)) : ∀ u ∈ entV a, u.oneCell' = true := fun u hu => by
  obtain ⟨q, _, h⟩ := List.mem_flatMap.1 hu
  simp at h
  rcases h with rfl | rfl <;> rfl
theorem entV_get (a : List (ByteArray × Int)) : ∀ i (h : i < a.length), (entV a)[i * 2]? = some (.string a[i].1) ∧ (entV a)[i * 2 + 1]? = some (.int .i64 a[i].2) := by
  induction a with
  | nil => intro i h; simp at h
  | cons x r ih =>
    intro i h
    cases i with
    | zero => exact ⟨rfl, rfl⟩
    | succ i =>
      have := ih i (by simpa using h)
      have e : entV (x :: r) = [Value.string x.1, Value.int .i64 x.2] ++ entV r := rfl
      rw [e]
      constructor
      · rw [List.getElem?_append_right (by simp; omega), show (i + 1) * 2 - [Value.string x.1, Value.int .i64 x.2].length = i * 2 by simp; omega]
        exact this.1
      · rw [List.getElem?_append_right (by simp; omega), show (i + 1) * 2 + 1 - [Value.string x.1, Value.int .i64 x.2].length = i * 2 + 1 by simp; omega]
        exact this.2
theorem entV_take (a : List (ByteArray × Int)) (i : Nat) : entV (a.take i) = (entV a).take (i * 2) := by
  induction a generalizing i with
  | nil => simp [entV]
  | cons x r ih =>
    cases i with
    | zero => simp [entV]
    | succ i =>
      have e : entV (x :: r) = [Value.string x.1, Value.int .i64 x.2] ++ entV r := rfl
      have e2 : entV ((x :: r).take (i + 1)) = [Value.string x.1, Value.int .i64 x.2] ++ entV (r.take i) := rfl
      rw [e, e2, ih, show (i + 1) * 2 = i * 2 + 1 + 1 by omega]
      simp
theorem entV_drop (a : List (ByteArray × Int)) (i : Nat) : entV (a.drop i) = (entV a).drop (i * 2) := by
  induction a generalizing i with
  | nil => simp [entV]
  | cons x r ih =>
    cases i with
    | zero => simp
    | succ i =>
      have e : entV (x :: r) = [Value.string x.1, Value.int .i64 x.2] ++ entV r := rfl
      rw [show (x :: r).drop (i + 1) = r.drop i from rfl, ih, e, show (i + 1) * 2 = i * 2 + 1 + 1 by omega]
      simp
theorem CellsAt.take {w : World} {a : Option Addr} {vs : List Value} (h : CellsAt w a vs) (k : Nat) : CellsAt w a (vs.take k) := by
  intro i hi
  obtain ⟨b, off, e, c⟩ := h i (by simp at hi; omega)
  exact ⟨b, off, e, by rw [c]; simp⟩
theorem CellsAt.drop {w : World} {a : Option Addr} {vs : List Value} (h : CellsAt w a vs) (k : Nat) : CellsAt w (Option.map (fun x => x.add k) a) (vs.drop k) := by
  intro i hi
  obtain ⟨b, off, rfl, c⟩ := h (k + i) (by simp at hi; omega)
  exact ⟨b, off + k, by simp [Addr_add], by rw [show off + k + i = off + (k + i) by omega, c]; simp⟩
theorem CellsAt.src {P : Program} {w : World} {a : Option Addr} {vs : List Value} {size n : Nat} (h : CellsAt w a vs) (hlen : vs.length = n * size) (hone : ∀ u ∈ vs, u.oneCell' = true) {tx e' : TypeId} (hk : P.underlying tx = some (.slice e')) (cap : Nat) (hsz : size = 1 ∨ size = 2) : Src P size tx (.slice a n cap) n vs w := by
  cases a with
  | none =>
    have : vs = [] := by
      cases vs with
      | nil => rfl
      | cons c r => obtain ⟨b, off, hh, _⟩ := h 0 (by simp); cases hh
    subst this
    have hn : n = 0 := by rcases hsz with rfl | rfl <;> (simp only [List.length_nil] at hlen; omega)
    subst hn
    exact Src.ofNil w hk cap
  | some a =>
    refine Src.ofSlice w hk a _ cap vs hlen (fun j u hu => ?_) hone
    obtain ⟨hj, he⟩ := List.getElem?_eq_some_iff.1 hu
    obtain ⟨b, off, hh, hc⟩ := h j hj
    cases hh
    rw [Addr_add, hc, he]
/-! ### 's[l:]', whatever the elements' size -/
def subN (a : Option Addr) (cap l size : Nat) : Option Addr := if cap = l then a else a.map (·.add (l * size))
theorem run_from {P : Program} (w : World) (t e : TypeId) (ht : P.underlying t = some (.slice e)) (size : Nat) (hz : ∀ w, (Go.sizeOf e).run P w = .ok size w) (a : Option Addr) (len cap l : Nat) (x : Int) (hx : x = (l : Int)) (hl : l ≤ len) :
    (Instr.slice t (.slice a len cap) (some (.int .i64 x)) none none).run P w = .ok (.slice (subN a cap l size) (len - l) (cap - l)) w := by
  have ht' : P.underlying t = some (.slice (P.elem t)) := by simp [Program.elem, ht]
  have he : P.elem t = e := by simp [Program.elem, ht]
  subst hx
  rw [run_slice_l w t _ _ _ ht' .i64 _ (by omega) (by omega), he, hz]
  simp [Result.andThen, sliced, subN]
theorem CellsAt.from {w : World} {a : Option Addr} {vs : List Value} {size len : Nat} (h : CellsAt w a vs) (hv : vs.length = len * size) (cap l : Nat) (hl : l ≤ len) (hc : len ≤ cap) : CellsAt w (subN a cap l size) (vs.drop (l * size)) := by
  unfold subN
  by_cases e : cap = l
  · rw [if_pos e]
    have : vs.drop (l * size) = [] := by
      apply List.drop_of_length_le
      rw [hv, show l = len by omega]
      exact Nat.le_refl _
    rw [this]; exact CellsAt.nil _ _
  · rw [if_neg e]; exact h.drop _
end Go.Proofs.Ytikdlhbamdefaaa
