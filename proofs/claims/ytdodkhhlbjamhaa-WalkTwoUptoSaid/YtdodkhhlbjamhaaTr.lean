
/- Plain: balanced trees with places; what putting, taking, joining and splitting make of them. No program in sight. -/
import Derived.Test.YtdodkhhlbjamhaaMem
import Derived.Sort.Walk0
namespace Go.Proofs.Ytdodkhhlbjamhaa
namespace Pm
/-! ### Keys -/
def klt (a b : ByteArray) : Bool := Op.bytesLess a.toList b.toList
theorem klt_iff (a b : ByteArray) : klt a b = true ↔ a.data.toList < b.data.toList := by
  unfold klt; rw [bytesLess_eq, ByteArray.toList_eq, ByteArray.toList_eq]; simp
theorem key_ext {a b : ByteArray} (h : a.data.toList = b.data.toList) : a = b := by
  apply ByteArray.ext; exact Array.toList_inj.1 h
theorem klt_irrefl (a : ByteArray) : klt a a = false := by
  cases h : klt a a with
  | false => rfl
  | true => exact absurd ((klt_iff a a).1 h) (List.lt_irrefl _)
theorem klt_trans {a b c : ByteArray} (h : klt a b = true) (k : klt b c = true) : klt a c = true :=
  (klt_iff a c).2 (List.lt_trans ((klt_iff a b).1 h) ((klt_iff b c).1 k))
theorem klt_asymm {a b : ByteArray} (h : klt a b = true) : klt b a = false := by
  cases k : klt b a with
  | false => rfl
  | true => have := klt_trans h k; rw [klt_irrefl] at this; cases this
theorem klt_tri {a b : ByteArray} (h : klt a b = false) (k : klt b a = false) : a = b := by
  apply key_ext
  have h1 : ¬ a.data.toList < b.data.toList := fun e => by rw [(klt_iff a b).2 e] at h; cases h
  have k1 : ¬ b.data.toList < a.data.toList := fun e => by rw [(klt_iff b a).2 e] at k; cases k
  exact List.le_antisymm (List.not_lt.1 k1) (List.not_lt.1 h1)
theorem klt_ne {a b : ByteArray} (h : klt a b = true) : a ≠ b := by
  rintro rfl; rw [klt_irrefl] at h; cases h
theorem eq_iff (a b : ByteArray) : (a.toList == b.toList) = decide (a = b) := by
  rw [ByteArray.toList_eq, ByteArray.toList_eq, Bool.eq_iff_iff]
  simp only [beq_iff_eq, decide_eq_true_eq]
  exact ⟨key_ext, fun h => by rw [h]⟩
/-! ### Trees -/
inductive Tr (α : Type) where
  | nil : Tr α
  | node (b : Nat) (l : Tr α) (k : ByteArray) (v : α) (r : Tr α) : Tr α
section
variable {α : Type}
def ht : Tr α → Nat
  | .nil => 0
  | .node _ l _ _ r => max (ht l) (ht r) + 1
def sz : Tr α → Nat
  | .nil => 0
  | .node _ l _ _ r => sz l + sz r + 1
def items : Tr α → List (ByteArray × α)
  | .nil => []
  | .node _ l k v r => items l ++ (k, v) :: items r
def blocks : Tr α → List Nat
  | .nil => []
  | .node b l _ _ r => blocks l ++ b :: blocks r
def Bal : Tr α → Prop
  | .nil => True
  | .node _ l _ _ r => Bal l ∧ Bal r ∧ ht l ≤ ht r + 1 ∧ ht r ≤ ht l + 1
def pa : Tr α → Option Addr
  | .nil => none
  | .node b _ _ _ _ => some ⟨b, 0, none⟩
def Srt (l : List (ByteArray × α)) : Prop := l.Pairwise fun x y => klt x.1 y.1 = true
theorem sz_items (t : Tr α) : (items t).length = sz t := by
  induction t with
  | nil => rfl
  | node b l k v r ih1 ih2 => simp only [items, sz, List.length_append, List.length_cons, ih1, ih2]; omega
theorem sz_blocks (t : Tr α) : (blocks t).length = sz t := by
  induction t with
  | nil => rfl
  | node b l k v r ih1 ih2 => simp only [blocks, sz, List.length_append, List.length_cons, ih1, ih2]; omega
theorem ht_le (t : Tr α) : ht t ≤ sz t := by
  induction t with
  | nil => exact Nat.le_refl _
  | node b l k v r ih1 ih2 => simp only [ht, sz]; omega
theorem ht_zero {t : Tr α} (h : ht t = 0) : t = .nil := by
  cases t with
  | nil => rfl
  | node b l k v r => simp [ht] at h
theorem ht_pos {t : Tr α} (h : 0 < ht t) : ∃ b l k v r, t = .node b l k v r := by
  cases t with
  | nil => simp [ht] at h
  | node b l k v r => exact ⟨b, l, k, v, r, rfl⟩
/-! ### What a node that is balanced anew is -/
inductive BalR (N : Nat) : Tr α → ByteArray → α → Tr α → Tr α → Prop
  | same {l r : Tr α} {k : ByteArray} {v : α} {b : Nat} : ht l ≤ ht r + 1 → ht r ≤ ht l + 1 → N ≤ b → BalR N l k v r (.node b l k v r)
  | ll {bl : Nat} {ll lr r : Tr α} {lk k : ByteArray} {lv v : α} {b1 b2 : Nat} : ht r + 1 < ht (.node bl ll lk lv lr) → ht lr ≤ ht ll → N ≤ b1 → N ≤ b2 →
      BalR N (.node bl ll lk lv lr) k v r (.node b1 ll lk lv (.node b2 lr k v r))
  | lr {bl bm : Nat} {ll ml mr r : Tr α} {lk mk k : ByteArray} {lv mv v : α} {b1 b2 b3 : Nat} : ht r + 1 < ht (.node bl ll lk lv (.node bm ml mk mv mr)) → ht ll < ht (.node bm ml mk mv mr) → N ≤ b1 → N ≤ b2 → N ≤ b3 →
      BalR N (.node bl ll lk lv (.node bm ml mk mv mr)) k v r (.node b1 (.node b2 ll lk lv ml) mk mv (.node b3 mr k v r))
  | rr {br : Nat} {l rl rr : Tr α} {rk k : ByteArray} {rv v : α} {b1 b2 : Nat} : ht l + 1 < ht (.node br rl rk rv rr) → ht rl ≤ ht rr → N ≤ b1 → N ≤ b2 →
      BalR N l k v (.node br rl rk rv rr) (.node b1 (.node b2 l k v rl) rk rv rr)
  | rl {br bm : Nat} {l ml mr rr : Tr α} {rk mk k : ByteArray} {rv mv v : α} {b1 b2 b3 : Nat} : ht l + 1 < ht (.node br (.node bm ml mk mv mr) rk rv rr) → ht rr < ht (.node bm ml mk mv mr) → N ≤ b1 → N ≤ b2 → N ≤ b3 →
      BalR N l k v (.node br (.node bm ml mk mv mr) rk rv rr) (.node b1 (.node b2 l k v ml) mk mv (.node b3 mr rk rv rr))
theorem BalR.mono {N N' : Nat} {l r t : Tr α} {k : ByteArray} {v : α} (h : BalR N l k v r t) (hN : N' ≤ N) : BalR N' l k v r t := by
  cases h with
  | same h1 h2 h3 => exact .same h1 h2 (Nat.le_trans hN h3)
  | ll h1 h2 h3 h4 => exact .ll h1 h2 (Nat.le_trans hN h3) (Nat.le_trans hN h4)
  | lr h1 h2 h3 h4 h5 => exact .lr h1 h2 (Nat.le_trans hN h3) (Nat.le_trans hN h4) (Nat.le_trans hN h5)
  | rr h1 h2 h3 h4 => exact .rr h1 h2 (Nat.le_trans hN h3) (Nat.le_trans hN h4)
  | rl h1 h2 h3 h4 h5 => exact .rl h1 h2 (Nat.le_trans hN h3) (Nat.le_trans hN h4) (Nat.le_trans hN h5)
theorem BalR.items {N : Nat} {l r t : Tr α} {k : ByteArray} {v : α} (h : BalR N l k v r t) : items t = items l ++ (k, v) :: items r := by
  cases h <;> simp [Pm.items]
theorem BalR.sz {N : Nat} {l r t : Tr α} {k : ByteArray} {v : α} (h : BalR N l k v r t) : sz t = sz l + sz r + 1 := by
  rw [← sz_items, h.items, ← sz_items l, ← sz_items r]; simp; omega
theorem BalR.bal {N : Nat} {l r t : Tr α} {k : ByteArray} {v : α} (h : BalR N l k v r t) (hl : Bal l) (hr : Bal r) (h1 : ht l ≤ ht r + 2) (h2 : ht r ≤ ht l + 2) :
    Bal t ∧ (ht t = max (ht l) (ht r) ∨ ht t = max (ht l) (ht r) + 1) ∧ (ht l ≤ ht r + 1 → ht r ≤ ht l + 1 → ht t = max (ht l) (ht r) + 1) := by
  cases h with
  | same h3 h4 h5 => exact ⟨⟨hl, hr, h3, h4⟩, .inr rfl, fun _ _ => rfl⟩
  | ll h3 h4 h5 h6 =>
    obtain ⟨b1, b2, b3, b4⟩ := hl
    simp only [ht] at *
    refine ⟨⟨b1, ⟨b2, hr, ?_, ?_⟩, ?_, ?_⟩, ?_, ?_⟩ <;> (try simp only [ht]) <;> omega
  | lr h3 h4 h5 h6 h7 =>
    obtain ⟨b1, ⟨b2, b3, b6, b7⟩, b4, b5⟩ := hl
    simp only [ht] at *
    refine ⟨⟨⟨b1, b2, ?_, ?_⟩, ⟨b3, hr, ?_, ?_⟩, ?_, ?_⟩, ?_, ?_⟩ <;> (try simp only [ht]) <;> omega
  | rr h3 h4 h5 h6 =>
    obtain ⟨b1, b2, b3, b4⟩ := hr
    simp only [ht] at *
    refine ⟨⟨⟨hl, b1, ?_, ?_⟩, b2, ?_, ?_⟩, ?_, ?_⟩ <;> (try simp only [ht]) <;> omega
  | rl h3 h4 h5 h6 h7 =>
    obtain ⟨⟨b1, b2, b6, b7⟩, b3, b4, b5⟩ := hr
    simp only [ht] at *
    refine ⟨⟨⟨hl, b1, ?_, ?_⟩, ⟨b2, b3, ?_, ?_⟩, ?_, ?_⟩, ?_, ?_⟩ <;> (try simp only [ht]) <;> omega
/-- Where both sides differ by one at most, it is a node. -/
theorem BalR.plain {N : Nat} {l r t : Tr α} {k : ByteArray} {v : α} (h : BalR N l k v r t) (h1 : ht l ≤ ht r + 1) (h2 : ht r ≤ ht l + 1) : ∃ b, N ≤ b ∧ t = .node b l k v r := by
  cases h with
  | same _ _ h3 => exact ⟨_, h3, rfl⟩
  | ll h3 => exact absurd h3 (by omega)
  | lr h3 => exact absurd h3 (by omega)
  | rr h3 => exact absurd h3 (by omega)
  | rl h3 => exact absurd h3 (by omega)
/-! ### Put -/
inductive PutR (N : Nat) (k : ByteArray) (v : α) : Tr α → Tr α → Prop
  | nil {b : Nat} : N ≤ b → PutR N k v .nil (.node b .nil k v .nil)
  | lt {b : Nat} {l r l' t : Tr α} {k0 : ByteArray} {v0 : α} : klt k k0 = true → PutR N k v l l' → BalR N l' k0 v0 r t → PutR N k v (.node b l k0 v0 r) t
  | gt {b : Nat} {l r r' t : Tr α} {k0 : ByteArray} {v0 : α} : klt k0 k = true → PutR N k v r r' → BalR N l k0 v0 r' t → PutR N k v (.node b l k0 v0 r) t
  | eq {b b' : Nat} {l r : Tr α} {k0 : ByteArray} {v0 : α} : k = k0 → N ≤ b' → PutR N k v (.node b l k0 v0 r) (.node b' l k v r)
/-! ### Putting into a list -/
def ins (k : ByteArray) (v : α) : List (ByteArray × α) → List (ByteArray × α)
  | [] => [(k, v)]
  | x :: l => if klt k x.1 then (k, v) :: x :: l else if klt x.1 k then x :: ins k v l else (k, v) :: l
def del (k : ByteArray) (l : List (ByteArray × α)) : List (ByteArray × α) := l.filter fun x => decide (x.1 ≠ k)
theorem srt_append {l m : List (ByteArray × α)} : Srt (l ++ m) ↔ Srt l ∧ Srt m ∧ ∀ x ∈ l, ∀ y ∈ m, klt x.1 y.1 = true := List.pairwise_append
theorem srt_cons {x : ByteArray × α} {l : List (ByteArray × α)} : Srt (x :: l) ↔ (∀ y ∈ l, klt x.1 y.1 = true) ∧ Srt l := List.pairwise_cons
theorem ins_left {k : ByteArray} {v : α} {l m : List (ByteArray × α)} {x : ByteArray × α} (h : klt k x.1 = true) : ins k v (l ++ x :: m) = ins k v l ++ x :: m := by
  induction l with
  | nil => simp only [List.nil_append, ins]; rw [if_pos h]; rfl
  | cons y l ih =>
    simp only [List.cons_append, ins]
    by_cases h1 : klt k y.1 = true
    · rw [if_pos h1, if_pos h1]; rfl
    · rw [if_neg h1, if_neg h1]
      by_cases h2 : klt y.1 k = true
      · rw [if_pos h2, if_pos h2, ih]; rfl
      · rw [if_neg h2, if_neg h2]; rfl
theorem ins_right {k : ByteArray} {v : α} {l m : List (ByteArray × α)} {x : ByteArray × α} (h : klt x.1 k = true) (hl : ∀ y ∈ l, klt y.1 x.1 = true) : ins k v (l ++ x :: m) = l ++ x :: ins k v m := by
  induction l with
  | nil =>
    simp only [List.nil_append, ins]
    rw [if_neg (by rw [klt_asymm h]; simp), if_pos h]
  | cons y l ih =>
    have hy := klt_trans (hl y List.mem_cons_self) h
    simp only [List.cons_append, ins]
    rw [if_neg (by rw [klt_asymm hy]; simp), if_pos hy, ih (fun z hz => hl z (List.mem_cons_of_mem _ hz))]
theorem ins_here {k : ByteArray} {v v0 : α} {l m : List (ByteArray × α)} (hl : ∀ y ∈ l, klt y.1 k = true) : ins k v (l ++ (k, v0) :: m) = l ++ (k, v) :: m := by
  induction l with
  | nil =>
    simp only [List.nil_append, ins]
    rw [if_neg (by rw [klt_irrefl]; simp), if_neg (by rw [klt_irrefl]; simp)]
  | cons y l ih =>
    have hy := hl y List.mem_cons_self
    simp only [List.cons_append, ins]
    rw [if_neg (by rw [klt_asymm hy]; simp), if_pos hy, ih (fun z hz => hl z (List.mem_cons_of_mem _ hz))]
theorem ins_mem {k : ByteArray} {v : α} : ∀ {l : List (ByteArray × α)} {y : ByteArray × α}, y ∈ ins k v l → y = (k, v) ∨ y ∈ l
  | [], y, h => by simp [ins] at h; exact .inl h
  | x :: l, y, h => by
    simp only [ins] at h
    split at h
    · rcases List.mem_cons.1 h with h | h
      · exact .inl h
      · exact .inr h
    · split at h
      · rcases List.mem_cons.1 h with h | h
        · exact .inr (h ▸ List.mem_cons_self)
        · rcases ins_mem h with h | h
          · exact .inl h
          · exact .inr (List.mem_cons_of_mem _ h)
      · rcases List.mem_cons.1 h with h | h
        · exact .inl h
        · exact .inr (List.mem_cons_of_mem _ h)
theorem ins_srt {k : ByteArray} {v : α} : ∀ {l : List (ByteArray × α)}, Srt l → Srt (ins k v l)
  | [], _ => by simp [ins, Srt]
  | x :: l, h => by
    obtain ⟨h1, h2⟩ := srt_cons.1 h
    simp only [ins]
    by_cases hk : klt k x.1 = true
    · rw [if_pos hk]
      exact srt_cons.2 ⟨fun y hy => by
        rcases List.mem_cons.1 hy with rfl | hy
        · exact hk
        · exact klt_trans hk (h1 y hy), h⟩
    · rw [if_neg hk]
      by_cases hx : klt x.1 k = true
      · rw [if_pos hx]
        exact srt_cons.2 ⟨fun y hy => by
          rcases ins_mem hy with rfl | hy
          · exact hx
          · exact h1 y hy, ins_srt h2⟩
      · rw [if_neg hx]
        have e := klt_tri (by simpa using hk) (by simpa using hx)
        exact srt_cons.2 ⟨fun y hy => by dsimp only; rw [e]; exact h1 y hy, h2⟩
theorem PutR.items {N : Nat} {k : ByteArray} {v : α} {t t' : Tr α} (h : PutR N k v t t') (hs : Srt (items t)) : items t' = ins k v (items t) := by
  induction h with
  | nil => rfl
  | lt h1 h2 h3 ih =>
    obtain ⟨s1, s2, s3⟩ := srt_append.1 hs
    rw [h3.items, ih s1]
    exact (ins_left (x := (_, _)) h1).symm
  | gt h1 h2 h3 ih =>
    obtain ⟨s1, s2, s3⟩ := srt_append.1 hs
    rw [h3.items, ih (srt_cons.1 s2).2]
    exact (ins_right (x := (_, _)) h1 (fun y hy => s3 y hy _ List.mem_cons_self)).symm
  | eq h1 h2 =>
    subst h1
    obtain ⟨s1, s2, s3⟩ := srt_append.1 hs
    exact (ins_here (fun y hy => s3 y hy _ List.mem_cons_self)).symm
theorem PutR.bal {N : Nat} {k : ByteArray} {v : α} {t t' : Tr α} (h : PutR N k v t t') (hb : Bal t) : Bal t' ∧ (ht t' = ht t ∨ ht t' = ht t + 1) := by
  induction h with
  | nil => exact ⟨⟨trivial, trivial, by simp [ht], by simp [ht]⟩, .inr rfl⟩
  | lt h1 h2 h3 ih =>
    obtain ⟨b1, b2, b3, b4⟩ := hb
    obtain ⟨i1, i2⟩ := ih b1
    obtain ⟨g1, g2, g3⟩ := h3.bal i1 b2 (by omega) (by omega)
    refine ⟨g1, ?_⟩
    simp only [ht]
    omega
  | gt h1 h2 h3 ih =>
    obtain ⟨b1, b2, b3, b4⟩ := hb
    obtain ⟨i1, i2⟩ := ih b2
    obtain ⟨g1, g2, g3⟩ := h3.bal b1 i1 (by omega) (by omega)
    refine ⟨g1, ?_⟩
    simp only [ht]
    omega
  | eq h1 h2 => exact ⟨hb, .inl rfl⟩
theorem ins_length {k : ByteArray} {v : α} : ∀ (l : List (ByteArray × α)), (ins k v l).length ≤ l.length + 1
  | [] => by simp [ins]
  | x :: l => by
    simp only [ins]
    split
    · simp
    · split
      · have := ins_length (k := k) (v := v) l; simp; omega
      · simp
/-! ### First -/
inductive FirstR (N : Nat) : Tr α → ByteArray → α → Tr α → Prop
  | here {b : Nat} {k : ByteArray} {v : α} {r : Tr α} : FirstR N (.node b .nil k v r) k v r
  | left {b : Nat} {l r l' t : Tr α} {k k1 : ByteArray} {v v1 : α} : FirstR N l k1 v1 l' → BalR N l' k v r t → FirstR N (.node b l k v r) k1 v1 t
theorem FirstR.items {N : Nat} {t t' : Tr α} {k : ByteArray} {v : α} (h : FirstR N t k v t') : items t = (k, v) :: items t' := by
  induction h with
  | here => rfl
  | left h1 h2 ih => rw [h2.items]; simp only [Pm.items, ih, List.cons_append]
theorem FirstR.bal {N : Nat} {t t' : Tr α} {k : ByteArray} {v : α} (h : FirstR N t k v t') (hb : Bal t) : Bal t' ∧ (ht t' = ht t ∨ ht t = ht t' + 1) := by
  induction h with
  | here => obtain ⟨b1, b2, b3, b4⟩ := hb; exact ⟨b2, .inr (by simp [ht])⟩
  | left h1 h2 ih =>
    obtain ⟨b1, b2, b3, b4⟩ := hb
    obtain ⟨i1, i2⟩ := ih b1
    obtain ⟨g1, g2, g3⟩ := h2.bal i1 b2 (by omega) (by omega)
    refine ⟨g1, ?_⟩
    simp only [ht]
    omega
/-! ### Take -/
inductive TakeR (N : Nat) (k : ByteArray) : Tr α → Tr α → Prop
  | lt {b : Nat} {l r l' t : Tr α} {k0 : ByteArray} {v0 : α} : klt k k0 = true → TakeR N k l l' → BalR N l' k0 v0 r t → TakeR N k (.node b l k0 v0 r) t
  | gt {b : Nat} {l r r' t : Tr α} {k0 : ByteArray} {v0 : α} : klt k0 k = true → TakeR N k r r' → BalR N l k0 v0 r' t → TakeR N k (.node b l k0 v0 r) t
  | last {b : Nat} {l : Tr α} {k0 : ByteArray} {v0 : α} : k = k0 → TakeR N k (.node b l k0 v0 .nil) l
  | eq {b : Nat} {l r r' t : Tr α} {k0 k1 : ByteArray} {v0 v1 : α} : k = k0 → FirstR N r k1 v1 r' → BalR N l k1 v1 r' t → TakeR N k (.node b l k0 v0 r) t
theorem del_none {k : ByteArray} {l : List (ByteArray × α)} (h : ∀ x ∈ l, x.1 ≠ k) : del k l = l := by
  unfold del; rw [List.filter_eq_self]; intro x hx; simpa using h x hx
theorem del_append (k : ByteArray) (l m : List (ByteArray × α)) : del k (l ++ m) = del k l ++ del k m := List.filter_append ..
theorem del_here (k : ByteArray) (v : α) (l : List (ByteArray × α)) : del k ((k, v) :: l) = del k l := by simp [del]
theorem del_other {k : ByteArray} {x : ByteArray × α} (l : List (ByteArray × α)) (h : x.1 ≠ k) : del k (x :: l) = x :: del k l := by simp [del, h]
theorem del_srt {k : ByteArray} {l : List (ByteArray × α)} (h : Srt l) : Srt (del k l) := h.sublist List.filter_sublist
theorem TakeR.items {N : Nat} {k : ByteArray} {t t' : Tr α} (h : TakeR N k t t') (hs : Srt (items t)) : items t' = del k (items t) := by
  induction h with
  | lt h1 h2 h3 ih =>
    obtain ⟨s1, s2, s3⟩ := srt_append.1 hs
    obtain ⟨s4, s5⟩ := srt_cons.1 s2
    rw [h3.items, ih s1]
    simp only [Pm.items, del_append]
    congr 1
    rw [del_other _ (Ne.symm (klt_ne h1)), del_none (fun x hx => Ne.symm (klt_ne (klt_trans h1 (s4 x hx))))]
  | gt h1 h2 h3 ih =>
    obtain ⟨s1, s2, s3⟩ := srt_append.1 hs
    obtain ⟨s4, s5⟩ := srt_cons.1 s2
    rw [h3.items, ih s5]
    simp only [Pm.items, del_append]
    rw [del_other _ (klt_ne h1), del_none (fun x hx => klt_ne (klt_trans (s3 x hx _ List.mem_cons_self) h1))]
  | last h1 =>
    subst h1
    obtain ⟨s1, s2, s3⟩ := srt_append.1 hs
    simp only [Pm.items, del_append, del_here]
    rw [del_none (fun x hx => klt_ne (s3 x hx _ List.mem_cons_self))]
    simp [del]
  | eq h1 h2 h3 =>
    subst h1
    obtain ⟨s1, s2, s3⟩ := srt_append.1 hs
    obtain ⟨s4, s5⟩ := srt_cons.1 s2
    simp only [Pm.items, del_append, del_here]
    rw [h3.items, del_none (fun x hx => klt_ne (s3 x hx _ List.mem_cons_self)), del_none (fun x hx => Ne.symm (klt_ne (s4 x hx))), h2.items]
theorem TakeR.bal {N : Nat} {k : ByteArray} {t t' : Tr α} (h : TakeR N k t t') (hb : Bal t) : Bal t' ∧ (ht t' = ht t ∨ ht t = ht t' + 1) := by
  induction h with
  | lt h1 h2 h3 ih =>
    obtain ⟨b1, b2, b3, b4⟩ := hb
    obtain ⟨i1, i2⟩ := ih b1
    obtain ⟨g1, g2, g3⟩ := h3.bal i1 b2 (by omega) (by omega)
    refine ⟨g1, ?_⟩
    simp only [ht]
    omega
  | gt h1 h2 h3 ih =>
    obtain ⟨b1, b2, b3, b4⟩ := hb
    obtain ⟨i1, i2⟩ := ih b2
    obtain ⟨g1, g2, g3⟩ := h3.bal b1 i1 (by omega) (by omega)
    refine ⟨g1, ?_⟩
    simp only [ht]
    omega
  | last h1 => obtain ⟨b1, b2, b3, b4⟩ := hb; exact ⟨b1, .inr (by simp [ht])⟩
  | eq h1 h2 h3 =>
    obtain ⟨b1, b2, b3, b4⟩ := hb
    obtain ⟨i1, i2⟩ := h2.bal b2
    obtain ⟨g1, g2, g3⟩ := h3.bal b1 i1 (by omega) (by omega)
    refine ⟨g1, ?_⟩
    simp only [ht]
    omega
/-- A key's way down. -/
def seek (k : ByteArray) : Tr α → Tr α
  | .nil => .nil
  | .node b l k0 v0 r => if klt k k0 then seek k l else if klt k0 k then seek k r else .node b l k0 v0 r
/-! ### Join -/
inductive JoinR (N : Nat) (k : ByteArray) (v : α) : Tr α → Tr α → Tr α → Prop
  | left {b : Nat} {ll lr r t1 t : Tr α} {lk : ByteArray} {lv : α} : ht r + 1 < ht (.node b ll lk lv lr) → JoinR N k v lr r t1 → BalR N ll lk lv t1 t → JoinR N k v (.node b ll lk lv lr) r t
  | right {b : Nat} {l rl rr t1 t : Tr α} {rk : ByteArray} {rv : α} : ht l + 1 < ht (.node b rl rk rv rr) → JoinR N k v l rl t1 → BalR N t1 rk rv rr t → JoinR N k v l (.node b rl rk rv rr) t
  | same {b : Nat} {l r : Tr α} : ht l ≤ ht r + 1 → ht r ≤ ht l + 1 → N ≤ b → JoinR N k v l r (.node b l k v r)
theorem JoinR.items {N : Nat} {k : ByteArray} {v : α} {l r t : Tr α} (h : JoinR N k v l r t) : items t = items l ++ (k, v) :: items r := by
  induction h with
  | left h1 h2 h3 ih => rw [h3.items, ih]; simp [Pm.items]
  | right h1 h2 h3 ih => rw [h3.items, ih]; simp [Pm.items]
  | same => rfl
theorem JoinR.bal {N : Nat} {k : ByteArray} {v : α} {l r t : Tr α} (h : JoinR N k v l r t) (hl : Bal l) (hr : Bal r) : Bal t ∧ (ht t = max (ht l) (ht r) ∨ ht t = max (ht l) (ht r) + 1) := by
  induction h with
  | left h1 h2 h3 ih =>
    obtain ⟨b1, b2, b3, b4⟩ := hl
    obtain ⟨i1, i2⟩ := ih b2 hr
    simp only [ht] at *
    obtain ⟨g1, g2, g3⟩ := h3.bal b1 i1 (by omega) (by omega)
    exact ⟨g1, by omega⟩
  | right h1 h2 h3 ih =>
    obtain ⟨b1, b2, b3, b4⟩ := hr
    obtain ⟨i1, i2⟩ := ih hl b1
    simp only [ht] at *
    obtain ⟨g1, g2, g3⟩ := h3.bal i1 b2 (by omega) (by omega)
    exact ⟨g1, by omega⟩
  | same h1 h2 h3 => exact ⟨⟨hl, hr, h1, h2⟩, .inr rfl⟩
/-! ### Split -/
inductive SplitR (N : Nat) (k : ByteArray) : Tr α → Tr α → Tr α → Tr α → Prop
  | nil : SplitR N k .nil .nil .nil .nil
  | lt {b : Nat} {l r a x c c' : Tr α} {k0 : ByteArray} {v0 : α} : klt k k0 = true → SplitR N k l a x c → JoinR N k0 v0 c r c' → SplitR N k (.node b l k0 v0 r) a x c'
  | gt {b : Nat} {l r a x c a' : Tr α} {k0 : ByteArray} {v0 : α} : klt k0 k = true → SplitR N k r a x c → JoinR N k0 v0 l a a' → SplitR N k (.node b l k0 v0 r) a' x c
  | eq {b : Nat} {l r : Tr α} {k0 : ByteArray} {v0 : α} : k = k0 → SplitR N k (.node b l k0 v0 r) l (.node b l k0 v0 r) r
theorem SplitR.bal {N : Nat} {k : ByteArray} {t a x c : Tr α} (h : SplitR N k t a x c) (hb : Bal t) : Bal a ∧ Bal c := by
  induction h with
  | nil => exact ⟨trivial, trivial⟩
  | lt h1 h2 h3 ih => obtain ⟨b1, b2, b3, b4⟩ := hb; obtain ⟨i1, i2⟩ := ih b1; exact ⟨i1, (h3.bal i2 b2).1⟩
  | gt h1 h2 h3 ih => obtain ⟨b1, b2, b3, b4⟩ := hb; obtain ⟨i1, i2⟩ := ih b2; exact ⟨(h3.bal b1 i1).1, i2⟩
  | eq => obtain ⟨b1, b2, b3, b4⟩ := hb; exact ⟨b1, b2⟩
/-- The node that is split off, as an entry. -/
def here : Tr α → List (ByteArray × α)
  | .nil => []
  | .node _ _ k v _ => [(k, v)]
theorem SplitR.items {N : Nat} {k : ByteArray} {t a x c : Tr α} (h : SplitR N k t a x c) : items t = items a ++ here x ++ items c := by
  induction h with
  | nil => rfl
  | lt h1 h2 h3 ih => rw [h3.items]; simp [Pm.items, ih]
  | gt h1 h2 h3 ih => rw [h3.items]; simp [Pm.items, ih]
  | eq => simp [Pm.items, here]
theorem SplitR.seek {N : Nat} {k : ByteArray} {t a x c : Tr α} (h : SplitR N k t a x c) : x = seek k t := by
  induction h with
  | nil => rfl
  | lt h1 h2 h3 ih => simp only [Pm.seek]; rw [if_pos h1]; exact ih
  | gt h1 h2 h3 ih => simp only [Pm.seek]; rw [if_neg (by rw [klt_asymm h1]; simp), if_pos h1]; exact ih
  | eq h1 => subst h1; simp only [Pm.seek]; rw [klt_irrefl]; simp
theorem seek_none {k : ByteArray} {t : Tr α} (hs : Srt (items t)) (h : seek k t = .nil) : ∀ x ∈ items t, x.1 ≠ k := by
  induction t with
  | nil => intro x hx; simp [items] at hx
  | node b l k0 v0 r ih1 ih2 =>
    obtain ⟨s1, s2, s3⟩ := srt_append.1 hs
    obtain ⟨s4, s5⟩ := srt_cons.1 s2
    simp only [seek] at h
    intro x hx
    simp only [items, List.mem_append, List.mem_cons] at hx
    by_cases h1 : klt k k0 = true
    · rw [if_pos h1] at h
      rcases hx with hx | rfl | hx
      · exact ih1 s1 h x hx
      · exact Ne.symm (klt_ne h1)
      · exact Ne.symm (klt_ne (klt_trans h1 (s4 x hx)))
    · rw [if_neg h1] at h
      by_cases h2 : klt k0 k = true
      · rw [if_pos h2] at h
        rcases hx with hx | rfl | hx
        · exact klt_ne (klt_trans (s3 x hx _ List.mem_cons_self) h2)
        · exact klt_ne h2
        · exact ih2 s5 h x hx
      · rw [if_neg h2] at h; cases h
theorem seek_some {k : ByteArray} {t : Tr α} {b : Nat} {l r : Tr α} {k0 : ByteArray} {v0 : α} (h : seek k t = .node b l k0 v0 r) : k0 = k ∧ (k, v0) ∈ items t := by
  induction t with
  | nil => cases h
  | node b1 l1 k1 v1 r1 ih1 ih2 =>
    simp only [seek] at h
    by_cases h1 : klt k k1 = true
    · rw [if_pos h1] at h
      obtain ⟨g1, g2⟩ := ih1 h
      exact ⟨g1, by simp only [items, List.mem_append]; exact .inl g2⟩
    · rw [if_neg h1] at h
      by_cases h2 : klt k1 k = true
      · rw [if_pos h2] at h
        obtain ⟨g1, g2⟩ := ih2 h
        exact ⟨g1, by simp only [items, List.mem_append, List.mem_cons]; exact .inr (.inr g2)⟩
      · rw [if_neg h2] at h
        cases h
        have e := klt_tri (by simpa using h1) (by simpa using h2)
        subst e
        exact ⟨rfl, by simp [items]⟩
theorem seek_mem {k : ByteArray} {t : Tr α} (hs : Srt (items t)) (h : ∃ x ∈ items t, x.1 = k) : ∃ b l v r, seek k t = .node b l k v r := by
  cases hl : seek k t with
  | nil =>
    obtain ⟨x, hx, e⟩ := h
    exact absurd e (seek_none hs hl x hx)
  | node b l k0 v0 r =>
    obtain ⟨rfl, _⟩ := seek_some hl
    exact ⟨b, l, v0, r, rfl⟩
end
end Pm
end Go.Proofs.Ytdodkhhlbjamhaa
