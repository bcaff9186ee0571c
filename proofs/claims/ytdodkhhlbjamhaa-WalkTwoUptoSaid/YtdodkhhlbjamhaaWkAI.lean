
/- Walks: Keep; what a tree has under a key. -/
import Derived.Test.YtdodkhhlbjamhaaPmSI
import Derived.Test.YtdodkhhlbjamhaaTrW
namespace Go.Proofs.Ytdodkhhlbjamhaa
open Go.RowKit Pm
/-- What a map has under a key, as a value. -/
def prtVI (p : Int × Bool) : Value := .agg #[.int .i64 p.1, .bool p.2]
def keepFI (p q r : Int × Bool) : Int × Bool := if q.2 && r.2 then (q.1, true) else if q.2 && !p.2 then (q.1, true) else if r.2 && !q.2 && !p.2 then (r.1, true) else (0, false)
/-- What a tree has under a key. -/
def prtTI (t : Tr Int) (k : ByteArray) : Int × Bool := (valOr (seek k t), isNI (seek k t))
theorem prtT_lkI {t : Tr Int} {k : ByteArray} (hs : Srt (items t)) : prtTI t k = lk 0 (items t) k := by
  unfold prtTI
  cases e : seek k t with
  | nil => rw [lk_none (seek_none hs e)]; rfl
  | node b l k0 v0 r =>
    obtain ⟨rfl, h⟩ := seek_some e
    rw [lk_mem hs h]; rfl
theorem keep_lkI {p q r : Int × Bool} (hp : nrm 0 p = p) (hq : nrm 0 q = q) (hr : nrm 0 r = r) : (q = r ∨ p = r → nrm 0 (keepFI p q r) = q) ∧ (p = q → p.2 = true → q.1 = r.1 ∨ r.2 = false → nrm 0 (keepFI p q r) = r) ∧ (p.2 = false → p = q → nrm 0 (keepFI p q r) = r) := by
  obtain ⟨p1, p2⟩ := p
  obtain ⟨q1, q2⟩ := q
  obtain ⟨r1, r2⟩ := r
  cases p2 <;> cases q2 <;> cases r2 <;> simp_all [keepFI, nrm]
set_option maxRecDepth 100000 in
set_option maxHeartbeats 2000000 in
theorem wk_KeepI (key : ByteArray) (p q r : Int × Bool) (w : World) :
    Calls Try.prog 17 #[.string key, prtVI p, prtVI q, prtVI r] w fun e w' => e = .returned (.tuple #[.int .i64 (keepFI p q r).1, .bool (keepFI p q r).2]) ∧ Below w.heap.size w w' := by
  obtain ⟨p1, p2⟩ := p
  obtain ⟨q1, q2⟩ := q
  obtain ⟨r1, r2⟩ := r
  unfold prtVI
  have hb : Below w.heap.size w (((w.alloc (.cells #[.int .i64 p1, .bool p2] 33)).alloc (.cells #[.int .i64 q1, .bool q2] 33)).alloc (.cells #[.int .i64 r1, .bool r2] 33)) := (((Below.refl _ w).alloc (Nat.le_refl _) _).alloc (by simp) _).alloc (by simp; omega) _
  have HB := Lib.hid hb
  clear hb
  cases p2 <;> cases q2 <;> cases r2
  all_goals
    go_enter Try.func17, Try.ntmps17
    go_wp2_with fail
    go_ret2
    exact ⟨by simp [keepFI], HB.out⟩
end Go.Proofs.Ytdodkhhlbjamhaa

