
/- Arguments opened: a slice of bytes, a slice of slices of bytes; what the second form's bound gives. -/
import Derived.Test.YtdodkhhlbjamhaaMem
import Derived.ProofKit
import Derived.OpenShut
import Derived.JoinedCond
import Derived.Deep.Matrix
namespace Go.Proofs.Ytdodkhhlbjamhaa
open Go.ChangeShapes Go.WideShapes Go.ChangeAt Go.RowKit Go.Deep

theorem bulk_all_append {H : Type} (l r : List (DataW H)) : Rows.uptoBulkAll (l ++ r) = Rows.uptoBulkAll l + Rows.uptoBulkAll r := by
  induction l with
  | nil => simp [Rows.uptoBulkAll]
  | cons x l ih => simp only [List.cons_append, Rows.uptoBulkAll, ih]; omega
theorem bulk_one_le {H : Type} (d : DataW H) : 1 ≤ Rows.uptoBulk d := by
  cases d with
  | lit l => cases l <;> simp [Rows.uptoBulk]
  | nil => simp [Rows.uptoBulk]
  | ptr d => simp [Rows.uptoBulk]
  | slice elems spare => simp [Rows.uptoBulk]
  | agg parts => simp [Rows.uptoBulk]
  | iface t d => simp [Rows.uptoBulk]
  | map entries => simp [Rows.uptoBulk]
  | held h => simp [Rows.uptoBulk]
theorem bulk_length_le {H : Type} (l : List (DataW H)) : l.length ≤ Rows.uptoBulkAll l := by
  induction l with
  | nil => simp [Rows.uptoBulkAll]
  | cons x r ih => have := bulk_one_le x; simp only [Rows.uptoBulkAll, List.length_cons]; omega

def u8s (zs : List Int) : List UInt8 := zs.map fun z => UInt8.ofNat z.toNat
theorem u8_back (z : Int) (h : (Lit.int .u8 z).wf = true) : ((UInt8.ofNat z.toNat).toNat : Int) = z := by
  have h1 : IntKind.u8.min = 0 := rfl
  have h2 : IntKind.u8.max = 255 := rfl
  simp only [Lit.wf, Bool.and_eq_true, decide_eq_true_eq] at h
  rw [UInt8.toNat_ofNat']
  omega

theorem bytes_of_ints {w : World} {a : Option Addr} {zs : List Int} {len : Nat} (hlen : len ≤ zs.length) (hw : ∀ n ∈ zs, (Lit.int .u8 n).wf = true) (hc : ∀ a', a = some a' → ∀ c, c < zs.length → w.cell? (a'.add c) = some (.int .u8 (zs.getD c 0))) (hn : a = none → len = 0) :
    BytesAt w a (u8s (zs.take len)) ∧ (u8s (zs.take len)).length = len := by
  have hl : (u8s (zs.take len)).length = len := by simp [u8s]; omega
  refine ⟨fun i hi => ?_, hl⟩
  rw [hl] at hi
  cases a with
  | none => have := hn rfl; omega
  | some a' =>
    have h0 := hc a' rfl i (by omega)
    obtain ⟨b, off, spot⟩ := a'
    have h00 := hc ⟨b, off, spot⟩ rfl 0 (by omega)
    have hs : spot = none := by simpa [Addr.add] using World.cell?_spot h00
    subst hs
    refine ⟨b, off, rfl, ?_⟩
    rw [Addr_add] at h0
    rw [h0]
    have hi2 : i < zs.length := by omega
    have hg : zs.getD i 0 = zs[i] := by simp [hi2]
    have hz : (zs.getD i 0) ∈ zs := by
      rw [hg]; exact List.getElem_mem _
    have := u8_back _ (hw _ hz)
    have e : (u8s (zs.take len))[i]'(by rw [hl]; exact hi) = UInt8.ofNat (zs.getD i 0).toNat := by
      simp only [u8s, List.getElem_map, List.getElem_take]
      rw [hg]
    rw [e, this]

section
variable {H : Type} {enc : TypeId × Value → H} {P : Program} {w : World} {base : Nat} {held : Bool}
/-- A slice of slices of bytes. -/
theorem open_lists {t e q : TypeId} {fuel : Nat} {a0 : Option Addr} {len cap : Nat} {x : DataW H × List MemPlace} (ht : P.underlying t = some (.slice e)) (he : P.underlying e = some (.slice q)) (hq : P.underlying q = some (.int .u8))
    (ce : P.cellsOf e = 1) (cq : P.cellsOf q = 1) (h : DataW.trod enc P w base (fun _ => true) held fuel t (Value.slice a0 len cap).cells.toList = some x) :
    ∃ ll : List (List UInt8), len = ll.length ∧ ListsAt w a0 ll ∧ ll.length ≤ maxLen ∧ ll.length + ll.flatten.length ≤ Rows.uptoBulk x.1 := by
  rcases open_int_rows ht he hq ce cq h with ⟨hcs, hx⟩ | ⟨a, len', cap', A, L, C, Z, hcs, _, hl, hm, hx, hr⟩
  · simp [Value.cells] at hcs
    obtain ⟨rfl, rfl, rfl⟩ := hcs
    exact ⟨[], rfl, fun i hi => by simp at hi, Nat.zero_le _, by simp⟩
  · simp [Value.cells] at hcs
    obtain ⟨rfl, rfl, rfl⟩ := hcs
    have each : ∀ r, r < cap → BytesAt w (A r) (u8s ((Z r).take (L r))) ∧ (u8s ((Z r).take (L r))).length = L r := by
      intro r hrc
      obtain ⟨_, h1, h2, h3, h4, h5, h6⟩ := hr r hrc
      exact bytes_of_ints (by omega) h4 (fun a' ha c hc => (h6 a' ha).2 c (by omega)) (fun hn => by have := h5 hn; omega)
    refine ⟨(List.range len).map fun r => u8s ((Z r).take (L r)), by simp, ?_, by simp; omega, ?_⟩
    · intro i hi
      have hi' : i < len := by simpa using hi
      obtain ⟨h0, h1, h2, _⟩ := hr i (by omega)
      obtain ⟨b, off, spot⟩ := a
      have hs : spot = none := by
        have h00 := (hr 0 (by omega)).1
        simpa [Addr.add] using World.cell?_spot h00
      subst hs
      have e1 := each i (by omega)
      refine ⟨b, off, A i, C i, rfl, ?_, by simpa using e1.1, ?_⟩
      · rw [Addr_add] at h0
        rw [h0]
        simp [e1.2]
      · simp only [List.getElem_map, List.getElem_range]
        rw [e1.2]; unfold maxLen at h2; omega
    · subst hx
      have hrow : ∀ r, r < cap → L r + 1 ≤ Rows.uptoBulk (intRow (H := H) .u8 (A r) (L r) (Z r)) := by
        intro r hrc
        obtain ⟨_, h1, h2, h3, h4, h5, h6⟩ := hr r hrc
        unfold intRow
        cases hA : A r with
        | none => have := h5 hA; simp [Rows.uptoBulk]; omega
        | some a' =>
          simp only [Rows.uptoBulk]
          have hb := bulk_length_le (lits (H := H) .u8 ((Z r).take (L r)))
          have e : (lits (H := H) .u8 ((Z r).take (L r))).length = L r := by simp [lits]; omega
          omega
      have hsum : ∀ n, n ≤ len → ((List.range n).map fun r => u8s ((Z r).take (L r))).flatten.length + n ≤ Rows.uptoBulkAll ((List.range n).map fun r => intRow (H := H) .u8 (A r) (L r) (Z r)) := by
        intro n
        induction n with
        | zero => intro _; simp
        | succ n ih =>
          intro hn
          have i1 := ih (by omega)
          have i2 := hrow n (by omega)
          have i3 := (each n (by omega)).2
          rw [List.range_succ, List.map_append, List.flatten_append, List.length_append, List.map_append, bulk_all_append]
          simp only [List.map_cons, List.map_nil, List.flatten_cons, List.flatten_nil, List.append_nil, Rows.uptoBulkAll]
          omega
      have := hsum len (Nat.le_refl _)
      simp only [Rows.uptoBulk]
      simp only [List.length_map, List.length_range]
      omega
/-- A slice of bytes. -/
theorem open_bytes_cs {t e : TypeId} {fuel : Nat} {cs : List Value} {x : DataW H × List MemPlace} (ht : P.underlying t = some (.slice e)) (he : P.underlying e = some (.int .u8))
    (ce : P.cellsOf e = 1) (h : DataW.trod enc P w base (fun _ => true) held fuel t cs = some x) :
    ∃ (a0 : Option Addr) (cap : Nat) (l : List UInt8), cs = [.slice a0 l.length cap] ∧ BytesAt w a0 l ∧ l.length ≤ maxLen ∧ l.length ≤ cap ∧ cap ≤ maxLen ∧ (a0 = none → cap = 0) ∧ l.length ≤ Rows.uptoBulk x.1 := by
  rcases open_ints ht he ce h with ⟨hcs, _⟩ | ⟨a, l, c, zs, hcs, _, hl, hm, hz, hx, hcell, hwz⟩
  · exact ⟨none, 0, [], hcs, BytesAt.nil _ _, Nat.zero_le _, Nat.le_refl _, Nat.zero_le _, fun _ => rfl, by simp⟩
  · have hz' : zs.length = c := by simpa using hz
    have e1 := bytes_of_ints (w := w) (a := some a) (zs := zs) (len := l) (by omega) hwz (fun a' ha i hi => by cases ha; exact hcell i (by omega)) (fun hn => by cases hn)
    refine ⟨some a, c, _, by rw [e1.2]; exact hcs, e1.1, by rw [e1.2]; omega, by rw [e1.2]; exact hl, hm, (fun hn => by cases hn), ?_⟩
    rw [e1.2]
    have hb : ∀ (k : IntKind) (l : List Int), l.length ≤ Rows.uptoBulkAll (lits (H := H) k l) := fun k l => by
      have := bulk_length_le (lits (H := H) k l)
      simpa [lits] using this
    rw [hx]
    simp only [Rows.uptoBulk]
    have := hb .u8 (zs.take l)
    rw [List.length_take] at this
    omega
theorem open_bytes {t e : TypeId} {fuel : Nat} {a0 : Option Addr} {len cap : Nat} {x : DataW H × List MemPlace} (ht : P.underlying t = some (.slice e)) (he : P.underlying e = some (.int .u8))
    (ce : P.cellsOf e = 1) (h : DataW.trod enc P w base (fun _ => true) held fuel t (Value.slice a0 len cap).cells.toList = some x) :
    ∃ l : List UInt8, len = l.length ∧ BytesAt w a0 l ∧ l.length ≤ maxLen ∧ len ≤ cap ∧ (a0 = none → cap = 0) ∧ l.length ≤ Rows.uptoBulk x.1 := by
  obtain ⟨a, c, l, hcs, h1, h2, h3, _, h4, h5⟩ := open_bytes_cs ht he ce h
  simp [Value.cells] at hcs
  obtain ⟨rfl, rfl, rfl⟩ := hcs
  exact ⟨l, rfl, h1, h2, h3, h4, h5⟩
/-- An array's cells, where each element has one. -/
theorem open_array {t e : TypeId} {n b : Nat} {r : Reach} {v : Value} {d : DataW H} {p : List MemPlace} (ht : P.underlying t = some (.array n e)) (hc : P.cellsOf t = n) (ce : P.cellsOf e = 1) (hv : Value.okWide P w r b t v)
    (h : DataW.Trod enc P w base (fun _ => true) held t v d p) :
    ∃ cs : List Value, v = .agg cs.toArray ∧ cs.length = n ∧ ∃ (xs : List (DataW H × List MemPlace)) (m : Nat), d = .agg (xs.map (·.1)) ∧ xs.length = n ∧ ∀ (i : Nat) (hi : i < cs.length) (hx : i < xs.length), DataW.trod enc P w base (fun _ => true) held m e [cs[i]] = some xs[i] := by
  simp only [Value.okWide, ht] at hv
  obtain ⟨cs, rfl, hsz, _⟩ := hv
  obtain ⟨fuel, hf⟩ := h
  obtain ⟨xs, m, _, hx, hl, hxl, hi⟩ := DataW.trod_array ht hf
  simp only [Prod.mk.injEq] at hx
  refine ⟨cs.toList, by simp, by rw [Array.length_toList, hsz, hc], xs, m, hx.1, hxl, fun i hci hxi => ?_⟩
  have := hi i (by omega)
  rw [ce, Nat.mul_one, List.getElem?_eq_getElem hxi] at this
  rw [← this]
  congr 1
  have hcl : (Value.agg cs).cells.toList = cs.toList := rfl
  rw [hcl, List.drop_eq_getElem_cons hci]
  rfl
end
theorem u32_word (x : Int) (h : (Lit.int .u32 x).wf = true) : ∃ y : BitVec 32, x = (y.toNat : Int) := by
  have h1 : IntKind.u32.min = 0 := rfl
  have h2 : IntKind.u32.max = 4294967295 := rfl
  simp only [Lit.wf, Bool.and_eq_true, decide_eq_true_eq] at h
  exact ⟨BitVec.ofNat 32 x.toNat, by rw [BitVec.toNat_ofNat]; omega⟩
theorem i64_bounds (n : Int) (h : (Lit.int .i64 n).wf = true) : -9223372036854775808 ≤ n ∧ n ≤ 9223372036854775807 := by
  have h1 : IntKind.i64.min = -9223372036854775808 := rfl
  have h2 : IntKind.i64.max = 9223372036854775807 := rfl
  simp only [Lit.wf, Bool.and_eq_true, decide_eq_true_eq] at h
  omega
theorem u64_bounds (n : Int) (h : (Lit.int .u64 n).wf = true) : 0 ≤ n ∧ n ≤ 18446744073709551615 := by
  have h1 : IntKind.u64.min = 0 := rfl
  have h2 : IntKind.u64.max = 18446744073709551615 := rfl
  simp only [Lit.wf, Bool.and_eq_true, decide_eq_true_eq] at h
  omega
end Go.Proofs.Ytdodkhhlbjamhaa
