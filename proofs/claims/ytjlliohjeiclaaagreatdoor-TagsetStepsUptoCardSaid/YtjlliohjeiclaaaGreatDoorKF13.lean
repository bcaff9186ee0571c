/- Words, contracts and walks that the proof stands on (SmQ TgF ItP TgT KeepX KpZ TgU). -/
import Derived.Test.YtjlliohjeiclaaaGreatDoorKF1
import Derived.LoopIn
import Derived.LoopNIn
import Derived.Shelf.Abstract
import Derived.Shelf.RegionOpen
import Derived.TacticsInMore
import Derived.Test.YtjlliohjeiclaaaGreatDoorKF11
import Derived.Test.YtjlliohjeiclaaaGreatDoorKF12
import Derived.Test.YtjlliohjeiclaaaGreatDoorKF4
import Derived.Test.YtjlliohjeiclaaaGreatDoorKF6
import Derived.WideKeyEntry
namespace Go.Proofs.YtjlliohjeiclaaaGreatDoor
open Go.RowKit St
theorem smK_same (s : Sv) : Instr.sameBits 10000 (smK s) (smK s) = true := by
 have h : ∀ n, Instr.sameBits (n + 1) (smK s) (smK s) = true := fun n => by
  unfold smK
  simp [Instr.sameBits, Go.MapKept.bytes_beq]
 exact h 9999
theorem smK_stays (s : Sv) (w : World) : (Instr.keyThatStays (smK s) (smK s)).run Tryz.prog w = .ok (smK s) w := by
 simp [Instr.keyThatStays, smK_same]
def SeMap (W : World) (B : Nat) (f : Sv → Int) : Prop :=
 ∃ (es : Array MapEntry) (clock : Nat) (ps : List (Sv × Int)), W.heap[B]? = some (.map es clock) ∧ es.toList.map (fun e => (e.key, e.val)) = ps.map (fun p => (smK p.1, Value.int .i64 p.2)) ∧
  (es.toList.map (·.born)).Nodup ∧ (∀ x ∈ es.toList, x.born < clock) ∧ ∀ s, lookG ps s = f s
theorem SeMap.below {W W' : World} {B : Nat} {f : Sv → Int} (h : SeMap W B f) (hb : Below W.heap.size W W') : SeMap W' B f := by
 obtain ⟨es, c, ps, h1, h2⟩ := h
 exact ⟨es, c, ps, (hb.block B (Array.getElem?_eq_some_iff.1 h1).1).trans h1, h2⟩
theorem SeMap.new (w : World) : SeMap (w.alloc (.map #[] 0)) w.heap.size (fun _ => 0) := ⟨#[], 0, [], heap_alloc_new w _, rfl, by simp, fun x hx => (by simp at hx), fun s => rfl⟩
theorem SeMap.look {w : World} {B : Nat} {f : Sv → Int} (h : SeMap w B f) (s : Sv) :
 (Instr.lookup 100 (.map (some B)) (smK s) false).run Tryz.prog w = .ok (.int .i64 (f s)) w := by
 obtain ⟨es, clock, ps, h1, h2, _, _, h5⟩ := h
 rw [← h5 s]
 exact stMap_look ⟨es, clock, h1, h2⟩ s
def updG (s : Sv) (v : Int) : List (Sv × Int) → List (Sv × Int)
 | [] => []
 | p :: ps => if p.1 = s then (s, v) :: ps else p :: updG s v ps
theorem lookG_hit (p : Sv × Int) (ps : List (Sv × Int)) {s : Sv} (h : p.1 = s) : lookG (p :: ps) s = p.2 := by unfold lookG; rw [List.find?_cons_of_pos (by simp [h])]
theorem lookG_skip (p : Sv × Int) (ps : List (Sv × Int)) {s : Sv} (h : p.1 ≠ s) : lookG (p :: ps) s = lookG ps s := by unfold lookG; rw [List.find?_cons_of_neg (by simpa using h)]
theorem updG_look (s : Sv) (v : Int) (t : Sv) : ∀ {ps : List (Sv × Int)}, (∃ p ∈ ps, p.1 = s) → lookG (updG s v ps) t = if t = s then v else lookG ps t
 | [], h => by obtain ⟨_, h, _⟩ := h; cases h
 | p :: ps, h => by
  unfold updG
  by_cases hp : p.1 = s
  · rw [if_pos hp]
    by_cases ht : t = s
    · subst ht; rw [if_pos rfl, lookG_hit _ _ rfl]
    · rw [if_neg ht, lookG_skip _ _ (fun e => ht e.symm), lookG_skip _ _ (fun e => ht (by rw [← e, hp]))]
  · rw [if_neg hp]
    have ih := updG_look s v t (ps := ps) (by
     obtain ⟨q, hq, hs⟩ := h
     rcases List.mem_cons.1 hq with rfl | hq
     · exact absurd hs hp
     · exact ⟨q, hq, hs⟩)
    by_cases ht : p.1 = t
    · rw [lookG_hit _ _ ht, lookG_hit _ _ ht, if_neg (fun e => hp (by rw [ht, e]))]
    · rw [lookG_skip _ _ ht, lookG_skip _ _ ht, ih]
theorem addG_look (s : Sv) (v : Int) (t : Sv) : ∀ {ps : List (Sv × Int)}, (∀ p ∈ ps, p.1 ≠ s) → lookG (ps ++ [(s, v)]) t = if t = s then v else lookG ps t
 | [], _ => by
  by_cases ht : t = s
  · subst ht; rw [if_pos rfl]; exact lookG_hit _ _ rfl
  · rw [if_neg ht]; exact lookG_skip _ _ (fun e => ht e.symm)
 | p :: ps, h => by
  have ih := addG_look s v t (ps := ps) fun q hq => h q (List.mem_cons_of_mem _ hq)
  have h0 := h p List.mem_cons_self
  rw [List.cons_append]
  by_cases ht : p.1 = t
  · rw [lookG_hit _ _ ht, lookG_hit _ _ ht, if_neg (fun e => h0 (by rw [ht, e]))]
  · rw [lookG_skip _ _ ht, lookG_skip _ _ ht, ih]
theorem stFindAt (w : World) (s : Sv) : ∀ (es : List MapEntry) (ps : List (Sv × Int)) (i : Nat), es.map (fun e => (e.key, e.val)) = ps.map (fun p => (smK p.1, Value.int .i64 p.2)) →
 ((∀ p ∈ ps, p.1 ≠ s) ∧ (Instr.findAsking 43 (smK s) es i).run Tryz.prog w = .ok none w) ∨
 ((∃ p ∈ ps, p.1 = s) ∧ ∃ j e0, es[j]? = some e0 ∧ e0.key = smK s ∧ (Instr.findAsking 43 (smK s) es i).run Tryz.prog w = .ok (some (i + j, .int .i64 (lookG ps s))) w ∧ ∀ v, (es.set j { e0 with val := .int .i64 v }).map (fun e => (e.key, e.val)) = (updG s v ps).map (fun p => (smK p.1, Value.int .i64 p.2)))
 | [], ps, i, h => by
  have : ps = [] := by simpa using h.symm
  subst this
  exact .inl ⟨by simp, by simp [Instr.findAsking]⟩
 | e :: es, [], i, h => by simp at h
 | e :: es, p :: ps, i, h => by
  simp only [List.map_cons, List.cons.injEq, Prod.mk.injEq] at h
  obtain ⟨⟨hk, hv⟩, hr⟩ := h
  have he := smK_equal s p.1 w
  by_cases e1 : s = p.1
  · refine .inr ⟨⟨p, by simp, e1.symm⟩, 0, e, rfl, by rw [hk, e1], ?_, fun v => ?_⟩
    · rw [decide_eq_true e1] at he
      have hl : lookG (p :: ps) s = p.2 := lookG_hit _ _ e1.symm
      simp [Instr.findAsking, hk, hv, he, hl]
    · unfold updG
      rw [if_pos e1.symm]
      simp only [List.set_cons_zero, List.map_cons, hr, hk, e1]
  · rw [decide_eq_false e1] at he
    have hl : lookG (p :: ps) s = lookG ps s := lookG_skip _ _ fun h => e1 h.symm
    rcases stFindAt w s es ps (i + 1) hr with ⟨h1, h2⟩ | ⟨⟨q, h1, h3⟩, j, e0, h4, h5, h6, h7⟩
    · refine .inl ⟨fun q hq => ?_, by simp [Instr.findAsking, hk, he, h2]⟩
      rcases List.mem_cons.1 hq with rfl | hq
      · exact fun h => e1 h.symm
      · exact h1 q hq
    · refine .inr ⟨⟨q, by simp [h1], h3⟩, j + 1, e0, by simpa using h4, h5, ?_, fun v => ?_⟩
      · rw [hl]
        have e2 : i + (j + 1) = i + 1 + j := by omega
        rw [e2]
        simp [Instr.findAsking, hk, he, h6]
      · unfold updG
        rw [if_neg (fun h => e1 h.symm), List.set_cons_succ, List.map_cons, List.map_cons, h7, hk, hv]
theorem stFindKeyAt (w : World) (s : Sv) (es : List MapEntry) (ps : List (Sv × Int)) (h : es.map (fun e => (e.key, e.val)) = ps.map (fun p => (smK p.1, Value.int .i64 p.2))) :
 ((∀ p ∈ ps, p.1 ≠ s) ∧ (Instr.findKey 43 (smK s) es).run Tryz.prog w = .ok none w) ∨
 ((∃ p ∈ ps, p.1 = s) ∧ ∃ j e0, es[j]? = some e0 ∧ e0.key = smK s ∧ (Instr.findKey 43 (smK s) es).run Tryz.prog w = .ok (some (j, .int .i64 (lookG ps s))) w ∧ ∀ v, (es.set j { e0 with val := .int .i64 v }).map (fun e => (e.key, e.val)) = (updG s v ps).map (fun p => (smK p.1, Value.int .i64 p.2))) := by
 have hp := Tryz.underlying43
 cases es with
 | nil =>
  have : ps = [] := by simpa using h.symm
  subst this
  exact .inl ⟨by simp, by simp [Instr.findKey, run_underlying hp, Instr.findNow]⟩
 | cons e es =>
  have := stFindAt w s (e :: es) ps 0 h
  unfold Instr.findKey
  simp only [Sem.run_bind, run_underlying hp, Result.andThen_ok]
  have hf : ∀ fs, Instr.findNow (.struct fs) (smK s) (e :: es) 0 = none := fun fs => by simp [Instr.findNow, Instr.sameNow]
  rw [hf]
  simpa using this
theorem SeMap.count {w : World} {B : Nat} {f : Sv → Int} (h : SeMap w B f) (s : Sv) :
 ∃ (st : Nat) (o : Obj), (Instr.mapEntry 100 (.map (some B)) (smK s)).run Tryz.prog w = .ok (.tuple #[.int .i64 (f s), .int .i64 (st : Int)]) (w.putObj B o) ∧
  SeMap (w.putObj B o) B f ∧ ∀ v : Int, ∃ o', (Instr.entryStore 100 (.map (some B)) (.int .i64 (st : Int)) (.int .i64 v)).run Tryz.prog (w.putObj B o) = .ok () ((w.putObj B o).putObj B o') ∧
   SeMap ((w.putObj B o).putObj B o') B (fun t => if t = s then v else f t) := by
 obtain ⟨es, clock, ps, hB, he, hnd, hlt, hf⟩ := h
 have hm := Tryz.underlying100
 have hz : ∀ u, (zeroValue 3).run Tryz.prog u = .ok (.int .i64 0) u := fun u => by kernel_rfl
 have hc := stCheck s false w
 have hBl := (Array.getElem?_eq_some_iff.1 hB).1
 rcases stFindKeyAt w s es.toList ps he with ⟨h1, h2⟩ | ⟨h1, j, e0, h3, h4, h5, h6⟩
 · have hl : lookG ps s = 0 := by
    unfold lookG
    rw [List.find?_eq_none.2 (fun p hp => by simpa using h1 p hp)]
   refine ⟨clock, .map (es.push { key := smK s, val := .int .i64 0, born := clock }) (clock + 1), ?_, ?_, fun v => ⟨.map (es.push { key := smK s, val := .int .i64 v, born := clock }) (clock + 1), ?_, ?_⟩⟩
   · simp [Instr.mapEntry, run_underlying hm, Go.MapKept.run_getObj_map hB, hc, h2, hz, Go.MapKept.run_setObj_map _ hB, Result.andThen, ← hf, hl, goInt]
     rfl
   · refine ⟨_, _, ps ++ [(s, 0)], World.putObj_heap_same hBl, by simp [he], ?_, ?_, fun t => ?_⟩
     · simp only [Array.toList_push, List.map_append, List.map_cons, List.map_nil]
       refine List.nodup_append.2 ⟨hnd, by simp, fun a ha c hc' e1 => ?_⟩
       simp only [List.mem_singleton] at hc'
       obtain ⟨x, hx, rfl⟩ := List.mem_map.1 ha
       have := hlt x hx
       omega
     · intro x hx
       simp only [Array.toList_push, List.mem_append, List.mem_singleton] at hx
       rcases hx with hx | rfl
       · have := hlt x hx; omega
       · simp
     · rw [addG_look s 0 t h1]
       by_cases ht : t = s
       · subst ht; rw [if_pos rfl, ← hf, hl]
       · rw [if_neg ht, hf]
   · have hw2 : (w.putObj B (.map (es.push { key := smK s, val := .int .i64 0, born := clock }) (clock + 1))).heap[B]? = some (.map (es.push { key := smK s, val := .int .i64 0, born := clock }) (clock + 1)) := World.putObj_heap_same hBl
     have hidx : (es.push { key := smK s, val := .int .i64 0, born := clock }).findIdx? (fun e => ((e.born : Nat) : Int) == ((clock : Nat) : Int)) = some es.size := by
      rw [Go.WideElems.findIdx_arr]
      exact Go.WideElems.findIdx_born (l := (es.push { key := smK s, val := .int .i64 0, born := clock }).toList) (j := es.size) (e0 := { key := smK s, val := .int .i64 0, born := clock }) (by
       simp only [Array.toList_push, List.map_append, List.map_cons, List.map_nil]
       refine List.nodup_append.2 ⟨hnd, by simp, fun a ha c hc' e1 => ?_⟩
       simp only [List.mem_singleton] at hc'
       obtain ⟨x, hx, rfl⟩ := List.mem_map.1 ha
       have := hlt x hx
       omega) (by simp)
     have hmod : (es.push { key := smK s, val := .int .i64 0, born := clock }).modify es.size (fun e => { e with val := .int .i64 v }) = es.push { key := smK s, val := .int .i64 v, born := clock } := by
      apply Array.ext'
      rw [Array.toList_modify, Array.toList_push, Array.toList_push, ← Array.length_toList, Go.WideElems.modify_last]
     simp [Instr.entryStore, Go.MapKept.run_getObj_map hw2, asInt, asIntOf, hidx, hmod, Go.MapKept.run_setObj_map _ hw2, Result.andThen]
     rfl
   · refine ⟨_, _, ps ++ [(s, v)], World.putObj_heap_same (by simpa using hBl), by simp [he], ?_, ?_, fun t => ?_⟩
     · simp only [Array.toList_push, List.map_append, List.map_cons, List.map_nil]
       refine List.nodup_append.2 ⟨hnd, by simp, fun a ha c hc' e1 => ?_⟩
       simp only [List.mem_singleton] at hc'
       obtain ⟨x, hx, rfl⟩ := List.mem_map.1 ha
       have := hlt x hx
       omega
     · intro x hx
       simp only [Array.toList_push, List.mem_append, List.mem_singleton] at hx
       rcases hx with hx | rfl
       · have := hlt x hx; omega
       · simp
     · rw [addG_look s v t h1, hf]
 · have hj : es[j]? = some e0 := by simpa using h3
   have hsame : es.modify j (fun e => { e with key := smK s }) = es := by
    apply Array.ext'
    rw [Array.toList_modify, Go.ChangeMaps.modify_eq_set _ _ _ _ h3]
    have : ({ e0 with key := smK s } : MapEntry) = e0 := by rw [← h4]
    rw [this]
    exact Go.WideElems.set_self _ _ _ h3
   have hstay := smK_stays s w
   refine ⟨e0.born, .map es clock, ?_, ⟨es, clock, ps, World.putObj_heap_same hBl, he, hnd, hlt, hf⟩, fun v => ⟨.map (es.modify j (fun e => { e with val := .int .i64 v })) clock, ?_, ?_⟩⟩
   · simp [Instr.mapEntry, run_underlying hm, Go.MapKept.run_getObj_map hB, hc, h5, hj, h4, hstay, hsame, Go.MapKept.run_setObj_map _ hB, Result.andThen, ← hf, goInt]
     rfl
   · have hw2 : (w.putObj B (.map es clock)).heap[B]? = some (.map es clock) := World.putObj_heap_same hBl
     have hidx : es.findIdx? (fun e => ((e.born : Nat) : Int) == ((e0.born : Nat) : Int)) = some j := by
      rw [Go.WideElems.findIdx_arr]
      exact Go.WideElems.findIdx_born hnd h3
     simp [Instr.entryStore, Go.MapKept.run_getObj_map hw2, asInt, asIntOf, hidx, Go.MapKept.run_setObj_map _ hw2, Result.andThen]
     rfl
   · have hset : (es.modify j (fun e => { e with val := .int .i64 v })).toList = es.toList.set j { e0 with val := .int .i64 v } := by
      rw [Array.toList_modify, Go.ChangeMaps.modify_eq_set _ _ _ _ h3]
     have hbn : (es.modify j (fun e => { e with val := .int .i64 v })).toList.map (·.born) = es.toList.map (·.born) := by
      rw [hset, List.map_set]
      exact Go.WideElems.set_self _ _ _ (by rw [List.getElem?_map, h3]; rfl)
     refine ⟨_, _, updG s v ps, World.putObj_heap_same (by simpa using hBl), by rw [hset]; exact h6 v, by rw [hbn]; exact hnd, fun x hx => ?_, fun t => by rw [updG_look s v t h1, hf]⟩
     have : x.born ∈ es.toList.map (·.born) := by rw [← hbn]; exact List.mem_map.2 ⟨x, hx, rfl⟩
     obtain ⟨y, hy, he'⟩ := List.mem_map.1 this
     rw [← he']
     exact hlt y hy
end Go.Proofs.YtjlliohjeiclaaaGreatDoor
namespace Go.Proofs.YtjlliohjeiclaaaGreatDoor
open Go.RowKit St Pm
theorem ats_nds {w : World} {t : Tr ByteArray} (h : AtS w t) : ∀ b ∈ blocks t, ∃ cs, w.heap[b]? = some (.cells cs 111 (0, 0)) := by
 induction t with
 | nil => intro b hb; simp [blocks] at hb
 | node b l k v r ih1 ih2 =>
  obtain ⟨h1, h2, h3⟩ := h
  intro b' hb
  simp only [blocks, List.mem_append, List.mem_cons] at hb
  rcases hb with hb | rfl | hb
  · exact ih1 h2 b' hb
  · exact ⟨_, h1⟩
  · exact ih2 h3 b' hb
def SetOut (l : List Ev) (w : World) (e : Ending) (w' : World) : Prop :=
 if mayV l = true then ∃ t : Tr ByteArray, e = .returned (.tuple #[.agg #[.pointer (pa t)], .int .i64 0]) ∧ AtS w' t ∧ Tag (setT l) t ∧ sz t ≤ l.length ∧ Below w.heap.size w w'
 else e = .returned (.tuple #[.agg #[.pointer none], .int .i64 2]) ∧ Below w.heap.size w w'
def cntS (l : List Ev) (s : Sv) : Int := if ∃ y ∈ l, y.1 = s then 1 else 0
theorem cntS_nil : (fun _ : Sv => (0 : Int)) = cntS [] := by funext s; simp [cntS]
theorem cntS_new {l : List Ev} {x : Ev} (h : ∀ y ∈ l, y.1 ≠ x.1) : cntS l x.1 = 0 := by unfold cntS; rw [if_neg]; rintro ⟨y, hy, e⟩; exact h y hy e
theorem cntS_old {l : List Ev} {x : Ev} (h : ∃ y ∈ l, y.1 = x.1) : cntS l x.1 = 1 := by unfold cntS; rw [if_pos h]
theorem cntS_snoc {l : List Ev} {x : Ev} (h : ∀ y ∈ l, y.1 ≠ x.1) : (fun t => if t = x.1 then cntS l x.1 + 1 else cntS l t) = cntS (l ++ [x]) := by
 funext t
 by_cases ht : t = x.1
 · subst ht
   rw [if_pos rfl, cntS_new h, cntS_old (x := x) ⟨x, by simp, rfl⟩]
   rfl
 · rw [if_neg ht]
   unfold cntS
   have : (∃ y ∈ l ++ [x], y.1 = t) ↔ ∃ y ∈ l, y.1 = t := by
    constructor
    · rintro ⟨y, hy, e⟩
      rcases List.mem_append.1 hy with hy | hy
      · exact ⟨y, hy, e⟩
      · rw [List.mem_singleton.1 hy] at e; exact absurd e.symm ht
    · rintro ⟨y, hy, e⟩; exact ⟨y, List.mem_append_left _ hy, e⟩
   simp only [this]
theorem tag_sz {l : List Ev} {t : Tr ByteArray} (h : Tag (setT l) t) : sz t ≤ l.length := by
 rw [h.len]
 have : ∀ (n : Nat) (l : List Ev), l.length = n → (setT l).length ≤ n := by
  intro n
  induction n with
  | zero => intro l hl; obtain rfl := List.length_eq_zero_iff.1 hl; exact Nat.le_refl _
  | succ n ih =>
   intro l hl
   rcases List.eq_nil_or_concat l with rfl | ⟨l0, x, rfl⟩
   · simp at hl
   · rw [List.concat_eq_append] at hl ⊢
     rw [setT_snoc]
     have h1 := insT_le x (setT l0)
     have h2 := ih l0 (by simpa using hl)
     omega
 exact this _ l rfl
set_option maxRecDepth 100000 in
set_option maxHeartbeats 4000000 in
theorem ts_Of (l : List Ev) (a : Option Addr) (n c : Nat) (w : World) (hl : CellsAt w a (elsV l)) (hn : n = l.length) (hb : n ≤ 100000) (hsz : ∀ e ∈ l, e.1.l.size ≤ 9223372036854775807) (hG : Glob w) :
 Calls Tryz.prog 9 #[.slice a n c] w (SetOut l w) := by
 have HL := Lib.hid hl
 have HSZ := Lib.hid hsz
 have HN := Lib.hid hn
 have HG := Lib.hid hG
 have OUT1 : Hid (∀ t e w', mayV l = true → e = .returned (.tuple #[.agg #[.pointer (pa t)], .int .i64 0]) → AtS w' t → Tag (setT l) t → Below w.heap.size w w' → SetOut l w e w') := Lib.hid (fun t e w' h h1 h2 h3 h7 => by unfold SetOut; rw [if_pos h]; exact ⟨t, h1, h2, h3, tag_sz h3, h7⟩)
 have OUT2 : Hid (∀ e w', mayV l = false → e = .returned (.tuple #[.agg #[.pointer none], .int .i64 2]) → Below w.heap.size w w' → SetOut l w e w') := Lib.hid (fun e w' h h1 h2 => by unfold SetOut; rw [if_neg (by rw [h]; simp)]; exact ⟨h1, h2⟩)
 clear hl hsz hn hG
 have hmk := @run_makeMap Tryz.prog
 have HC : Hid (Chain [w] w) := Lib.hid (Chain.one w)
 go_enter Tryz.func9, Tryz.ntmps9
 go_upto_region 3 with (fail)
 have x0 := heap_alloc_new w (.cells #[.pointer none] 27)
 have x0 := boxStays (boxStays x0 (below_new _ (.cells #[.pointer none] 27))) (below_new _ (.map #[] 0))
 have x1 := heap_alloc_new (w.alloc (.cells #[.pointer none] 27)) (.cells #[.pointer none] 27)
 have x1 := boxStays x1 (below_new _ (.map #[] 0))
 have x2 := SeMap.new ((w.alloc (.cells #[.pointer none] 27)).alloc (.cells #[.pointer none] 27))
 have hb0 : Below w.heap.size w (((w.alloc (.cells #[.pointer none] 27)).alloc (.cells #[.pointer none] 27)).alloc (.map #[] 0)) := (((Below.refl _ w).alloc (Nat.le_refl _) _).alloc (by simp) _).alloc (by simp; omega) _
 rw [World.size_alloc] at x1
 rw [World.size_alloc, World.size_alloc] at x2
 obtain ⟨z, hz⟩ : ∃ z, w.heap.size = z := ⟨_, rfl⟩
 rw [hz] at OUT1 OUT2 x0 x1 x2 hb0
 try rw [hz]
 rw [cntS_nil] at x2
 generalize ((w.alloc (.cells #[.pointer none] 27)).alloc (.cells #[.pointer none] 27)).alloc (.map #[] 0) = W at *
 have Z := Lib.hid hz
 have HGB : Hid (∀ V, Below z w V → Glob V) := Lib.hid (fun V hV => HG.out.below (by rw [hz]; exact hV))
 clear hz
 go_wp2_with fail
 go_loopw [13] (fun i wr => ∃ (k : Nat) (t : Tr ByteArray), k ≤ n ∧ i = .int .i64 (k : Int) ∧ Hid (mayV (l.take k) = true) ∧ Hid (Tag (setT (l.take k)) t) ∧ Hid (AtS wr t) ∧ Hid (wr.heap[z]? = some (.cells #[.pointer none] 27 (0, 0))) ∧ Hid (wr.heap[z + 1]? = some (.cells #[.pointer (pa t)] 27 (0, 0))) ∧ Hid (SeMap wr (z + 1 + 1) (cntS (l.take k))) ∧ Hid (Below z w wr)) (fun i _ => n - (intOf i).toNat)
 case atStart => exact ⟨0, .nil, Nat.zero_le _, rfl, Lib.hid (by rw [List.take_zero]; exact mayV_nil), Lib.hid tag_nil, Lib.hid trivial, Lib.hid x0, Lib.hid x1, Lib.hid x2, Lib.hid hb0⟩
 clear x0 x1 x2 hb0
 case round =>
  obtain ⟨k, t, hk, rfl, HM, HTG, HAt, X0, X1, HSE, HB⟩ := hrel
  by_cases hlt : k < n
  · have hk1 : k < l.length := by have := HN.out; omega
    have GB : Hid ((okV l[k] = false ∨ ∃ y ∈ l.take k, y.1 = l[k].1) → mayV l = false) := Lib.hid (fun h => mayV_bad (k := k + 1) (by
     cases e : mayV (l.take (k + 1)) with
     | false => rfl
     | true =>
      obtain ⟨_, h2, h3⟩ := (mayV_next hk1).1 e
      rcases h with h | ⟨y, hy, h⟩
      · rw [h2] at h; cases h
      · exact absurd h (h3 y hy)))
    have GS : Hid (okV l[k] = true → (∀ y ∈ l.take k, y.1 ≠ l[k].1) → mayV (l.take (k + 1)) = true) := Lib.hid (fun h2 h3 => (mayV_next hk1).2 ⟨HM.out, h2, h3⟩)
    have GP : Hid (setT (l.take (k + 1)) = insT l[k] (setT (l.take k))) := Lib.hid (by rw [List.take_succ_eq_append_getElem hk1, setT_snoc])
    have GC : Hid ((∀ y ∈ l.take k, y.1 ≠ l[k].1) → (fun t => if t = l[k].1 then cntS (l.take k) l[k].1 + 1 else cntS (l.take k) t) = cntS (l.take (k + 1))) := Lib.hid (fun h => by rw [List.take_succ_eq_append_getElem hk1]; exact cntS_snoc h)
    have HZX : Hid (l[k].1.l.size ≤ 9223372036854775807) := Lib.hid (HSZ.out _ (List.getElem_mem hk1))
    have C0 : Hid ((∀ y ∈ l.take k, y.1 ≠ l[k].1) → cntS (l.take k) l[k].1 = 0) := Lib.hid cntS_new
    have C1 : Hid ((∃ y ∈ l.take k, y.1 = l[k].1) → cntS (l.take k) l[k].1 = 1) := Lib.hid cntS_old
    have hTl : sz t ≤ k := by have := tag_sz HTG.out; rw [List.length_take] at this; omega
    obtain ⟨ba, oa, rfl, ca⟩ := els_get (HL.out.below HB.out Z.out.symm) k hk1
    obtain ⟨x, hx⟩ : ∃ x, l[k] = x := ⟨_, rfl⟩
    rw [hx] at ca GB GS GP HZX C0 C1 GC
    clear hx
    obtain ⟨p0, p1, p2, p3, p4, p5⟩ := ca
    have hki : (k : Int) < (n : Int) := by omega
    go_upto_region 6 with (fail)
    have hbE := below_new wr (.cells #[.int .i64 x.1.g, .int .i64 x.1.r, .string x.1.l, .int .i64 x.1.n, .int .i64 x.1.i, .string x.2] 53)
    have xE := heap_alloc_new wr (.cells #[.int .i64 x.1.g, .int .i64 x.1.r, .string x.1.l, .int .i64 x.1.n, .int .i64 x.1.i, .string x.2] 53)
    generalize wr.alloc (.cells #[.int .i64 x.1.g, .int .i64 x.1.r, .string x.1.l, .int .i64 x.1.n, .int .i64 x.1.i, .string x.2] 53) = w1 at *
    obtain ⟨bE, hbE'⟩ : ∃ b, wr.heap.size = b := ⟨_, rfl⟩
    rw [hbE'] at xE
    rw [hbE']
    have hzE : z + 1 + 1 < bE := by have h1 := HSE.out; obtain ⟨es, cl, ps, h2, _⟩ := h1; have := (Array.getElem?_eq_some_iff.1 h2).1; omega
    have HB1 := Lib.hid (HB.out.trans (hbE.mono (by omega)))
    have X01 := Lib.hid (boxStays X0.out hbE)
    have X11 := Lib.hid (boxStays X1.out hbE)
    have A1 := Lib.hid (HAt.out.below hbE rfl)
    have S1 := Lib.hid (HSE.out.below hbE)
    have XE1 := Lib.hid xE
    clear hbE xE hbE' p0 p1 p2 p3 p4 p5 X0 X1 HAt HB HSE
    have c0 := cell_of_row _ _ 0 _ _ _ XE1.out
    have c1 := cell_of_row _ _ 1 _ _ _ XE1.out
    have c2 := cell_of_row _ _ 2 _ _ _ XE1.out
    have c3 := cell_of_row _ _ 3 _ _ _ XE1.out
    have c4 := cell_of_row _ _ 4 _ _ _ XE1.out
    have c5 := cell_of_row _ _ 5 _ _ _ XE1.out
    go_wp2_with fail
    refine (ts_Key x.2 x.1 w1 HZX.out (HGB.out _ HB1.out)).mono ?_
    rintro e w2 ⟨he, hb2⟩
    obtain ⟨kv, ev, hkv, h0, h2⟩ : ∃ (kv : ByteArray) (ev : Int), (if okV (x.1, x.2) = true then Value.tuple #[.string (tagK (x.1, x.2)), .int .i64 0] else .tuple #[.string ⟨#[]⟩, .int .i64 2]) = .tuple #[.string kv, .int .i64 ev] ∧ (okV x = true → kv = tagK x ∧ ev = 0) ∧ (okV x = false → ev = 2) := by
     cases hq : okV x with
     | true => exact ⟨_, _, if_pos rfl, fun _ => ⟨rfl, rfl⟩, fun h => (by cases h)⟩
     | false => exact ⟨_, _, if_neg (by simp), fun h => (by cases h), fun _ => rfl⟩
    rw [hkv] at he
    subst he
    have K0 := Lib.hid h0
    have K2 := Lib.hid h2
    clear hkv h0 h2
    have hzw : bE < w1.heap.size := (Array.getElem?_eq_some_iff.1 XE1.out).1
    have HB2 := Lib.hid (HB1.out.trans (hb2.mono (by omega)))
    have X02 := Lib.hid (boxStays X01.out hb2)
    have X12 := Lib.hid (boxStays X11.out hb2)
    have A2 := Lib.hid (A1.out.below hb2 rfl)
    have S2 := Lib.hid (S1.out.below hb2)
    have XE2 := Lib.hid (boxStays XE1.out hb2)
    have hzw2 : bE < w2.heap.size := (Array.getElem?_eq_some_iff.1 XE2.out).1
    clear hb2 c0 c1 c2 c3 c4 c5 X01 X11 A1 XE1 HB1 S1
    go_upto_region 7 with (fail)
    obtain ⟨cn, hcn⟩ : ∃ q, cntS (l.take k) x.1 = q := ⟨_, rfl⟩
    have hcnr : cn = 0 ∨ cn = 1 := by rw [← hcn]; unfold cntS; split <;> simp
    rw [hcn] at C0 C1 GC
    have sd : SeMap w2.drew (z + 1 + 1) (cntS (l.take k)) := S2.out
    have l0 := sd.look x.1
    obtain ⟨st, o1, hme, hse, hst⟩ := sd.count x.1
    have l1 := hse.look x.1
    rw [hcn] at l0 l1 hme
    obtain ⟨o2, hes, hs2⟩ := hst (cn + 1)
    have l2 := hs2.look x.1
    rw [if_pos rfl] at l2
    unfold smK at l0 l1 hme l2
    have hcw : IntKind.i64.wrap (cn + 1) = cn + 1 := by rw [IntKind.wrap_i64]; omega
    have hSd : w2.drew.heap[bE]? = some (.cells #[.int .i64 x.1.g, .int .i64 x.1.r, .string x.1.l, .int .i64 x.1.n, .int .i64 x.1.i, .string x.2] 53 (0, 0)) := XE2.out
    have S3 := Lib.hid hs2
    clear hse hst sd hs2 hcn
    refine wp_region_noPanic ?_
    refine wp_region_held_drew (S := (fun w' => w'.heap[bE]? = some (.cells #[.int .i64 x.1.g, .int .i64 x.1.r, .string x.1.l, .int .i64 x.1.n, .int .i64 x.1.i, .string x.2] 53 (0, 0)))) (by kernel_rfl) hSd (fun hS => ?_)
    refine tk (i := 0) (oi := ⟨some 25, _, _, _, _, _⟩) (v := ?_) rfl (Or.inl ⟨by rfl, ?_⟩) hS ?_
    rotate_left 1
    · intro w' hB; have q0 := cell_of_row _ _ 0 _ _ _ hB; have q1 := cell_of_row _ _ 1 _ _ _ hB; have q2 := cell_of_row _ _ 2 _ _ _ hB; have q3 := cell_of_row _ _ 3 _ _ _ hB; have q4 := cell_of_row _ _ 4 _ _ _ hB; (go_simp <;> with_reducible rfl)
    try simp only [Act.put, zA, zB, zC]
    refine tk (i := 1) (oi := ⟨some 26, _, _, _, _, _⟩) (v := ?_) rfl (Or.inl ⟨by rfl, ?_⟩) hS ?_
    rotate_left 1
    · intro w' hB; have q0 := cell_of_row _ _ 0 _ _ _ hB; have q1 := cell_of_row _ _ 1 _ _ _ hB; have q2 := cell_of_row _ _ 2 _ _ _ hB; have q3 := cell_of_row _ _ 3 _ _ _ hB; have q4 := cell_of_row _ _ 4 _ _ _ hB; (go_simp <;> with_reducible rfl)
    try simp only [Act.put, zA, zB, zC]
    refine tk (i := 2) (oi := ⟨some 27, _, _, _, _, _⟩) (v := ?_) rfl (Or.inl ⟨by rfl, ?_⟩) hS ?_
    rotate_left 1
    · intro w' hB; have q0 := cell_of_row _ _ 0 _ _ _ hB; have q1 := cell_of_row _ _ 1 _ _ _ hB; have q2 := cell_of_row _ _ 2 _ _ _ hB; have q3 := cell_of_row _ _ 3 _ _ _ hB; have q4 := cell_of_row _ _ 4 _ _ _ hB; (go_simp <;> with_reducible rfl)
    try simp only [Act.put, zA, zB, zC]
    refine wpAnyH_ready (rs := [3, 5]) (by kernel_rfl) (by simp) (AllReadyH.cons (o := ⟨some 28, _, _, _, _, _⟩) rfl (fun K hK => ?way2) (AllReadyH.cons (o := ⟨some 30, _, _, _, _, _⟩) rfl (fun K hK => ?way1) AllReadyH.nil))
    case' way2 =>
     go_simp
     refine hK.out _ _ hS (fun _ => ?_)
     clear hK K
     try simp only [Act.put, zA, zB, zC]
     refine tk (i := 4) (oi := ⟨some 29, _, _, _, _, _⟩) (v := ?_) rfl (Or.inl ⟨by rfl, ?_⟩) hS ?_
     rotate_left 1
     · intro w' hB; have q0 := cell_of_row _ _ 0 _ _ _ hB; have q1 := cell_of_row _ _ 1 _ _ _ hB; have q2 := cell_of_row _ _ 2 _ _ _ hB; have q3 := cell_of_row _ _ 3 _ _ _ hB; have q4 := cell_of_row _ _ 4 _ _ _ hB; (go_simp <;> with_reducible rfl)
     try simp only [Act.put, zA, zB, zC]
     refine wpAnyH_ready (rs := [5]) (by kernel_rfl) (by simp) (AllReadyH.cons (o := ⟨some 30, _, _, _, _, _⟩) rfl (fun K hK => ?_) AllReadyH.nil)
     replace hS := (World.putObj_heap_other (w := w2.drew) (o := o1) (show bE ≠ z + 1 + 1 by omega)).trans hS
     go_simp
     refine hK.out _ _ hS (fun _ => ?_)
     clear hK K
     try simp only [Act.put, zA, zB, zC]
     refine tk (i := 6) (oi := ⟨some 31, _, _, _, _, _⟩) (v := ?_) rfl (Or.inl ⟨by rfl, ?_⟩) hS ?_
     rotate_left 1
     · intro w' hB; have q0 := cell_of_row _ _ 0 _ _ _ hB; have q1 := cell_of_row _ _ 1 _ _ _ hB; have q2 := cell_of_row _ _ 2 _ _ _ hB; have q3 := cell_of_row _ _ 3 _ _ _ hB; have q4 := cell_of_row _ _ 4 _ _ _ hB; (go_simp <;> with_reducible rfl)
     try simp only [Act.put, zA, zB, zC]
     refine wpAnyH_ready (rs := [7]) (by kernel_rfl) (by simp) (AllReadyH.cons (o := ⟨none, _, _, _, _, _⟩) rfl (fun K hK => ?_) AllReadyH.nil)
     replace hS := (World.putObj_heap_other (w := w2.drew.putObj (z + 1 + 1) o1) (o := o2) (show bE ≠ z + 1 + 1 by omega)).trans hS
     go_simp
     refine hK.out _ _ hS (fun _ => ?_)
     clear hK K
     try simp only [Act.put, zA, zB, zC]
     refine wpAnyH_done (by kernel_rfl) (NoPanic.normal ?_) _
    case' way1 =>
     replace hS := (World.putObj_heap_other (w := w2.drew) (o := o1) (show bE ≠ z + 1 + 1 by omega)).trans hS
     go_simp
     refine hK.out _ _ hS (fun _ => ?_)
     clear hK K
     try simp only [Act.put, zA, zB, zC]
     refine tk (i := 6) (oi := ⟨some 31, _, _, _, _, _⟩) (v := ?_) rfl (Or.inl ⟨by rfl, ?_⟩) hS ?_
     rotate_left 1
     · intro w' hB; have q0 := cell_of_row _ _ 0 _ _ _ hB; have q1 := cell_of_row _ _ 1 _ _ _ hB; have q2 := cell_of_row _ _ 2 _ _ _ hB; have q3 := cell_of_row _ _ 3 _ _ _ hB; have q4 := cell_of_row _ _ 4 _ _ _ hB; (go_simp <;> with_reducible rfl)
     try simp only [Act.put, zA, zB, zC]
     refine wpAnyH_ready (rs := [3]) (by kernel_rfl) (by simp) (AllReadyH.cons (o := ⟨some 28, _, _, _, _, _⟩) rfl (fun K hK => ?_) AllReadyH.nil)
     go_simp
     refine hK.out _ _ hS (fun _ => ?_)
     clear hK K
     try simp only [Act.put, zA, zB, zC]
     refine tk (i := 4) (oi := ⟨some 29, _, _, _, _, _⟩) (v := ?_) rfl (Or.inl ⟨by rfl, ?_⟩) hS ?_
     rotate_left 1
     · intro w' hB; have q0 := cell_of_row _ _ 0 _ _ _ hB; have q1 := cell_of_row _ _ 1 _ _ _ hB; have q2 := cell_of_row _ _ 2 _ _ _ hB; have q3 := cell_of_row _ _ 3 _ _ _ hB; have q4 := cell_of_row _ _ 4 _ _ _ hB; (go_simp <;> with_reducible rfl)
     try simp only [Act.put, zA, zB, zC]
     refine wpAnyH_ready (rs := [7]) (by kernel_rfl) (by simp) (AllReadyH.cons (o := ⟨none, _, _, _, _, _⟩) rfl (fun K hK => ?_) AllReadyH.nil)
     replace hS := (World.putObj_heap_other (w := w2.drew.putObj (z + 1 + 1) o1) (o := o2) (show bE ≠ z + 1 + 1 by omega)).trans hS
     go_simp
     refine hK.out _ _ hS (fun _ => ?_)
     clear hK K
     try simp only [Act.put, zA, zB, zC]
     refine wpAnyH_done (by kernel_rfl) (NoPanic.normal ?_) _
    all_goals
     have S4 := S3
     have HB4 : Hid (Below z w ((w2.drew.putObj (z + 1 + 1) o1).putObj (z + 1 + 1) o2)) := Lib.hid ((HB2.out.drew.trans ((below_put z w2.drew (z + 1 + 1) o1 (by omega)))).trans (below_put z _ (z + 1 + 1) o2 (by omega)))
     have X04 : Hid (((w2.drew.putObj (z + 1 + 1) o1).putObj (z + 1 + 1) o2).heap[z]? = some (.cells #[.pointer none] 27 (0, 0))) := Lib.hid ((World.putObj_heap_other (by omega)).trans ((World.putObj_heap_other (by omega)).trans X02.out))
     have X14 : Hid (((w2.drew.putObj (z + 1 + 1) o1).putObj (z + 1 + 1) o2).heap[z + 1]? = some (.cells #[.pointer (pa t)] 27 (0, 0))) := Lib.hid ((World.putObj_heap_other (by omega)).trans ((World.putObj_heap_other (by omega)).trans X12.out))
     have hnd : ∀ b ∈ blocks t, b ≠ z + 1 + 1 := fun b hb e => by
      obtain ⟨es, cl, ps, h1, _⟩ := S2.out
      obtain ⟨cs, h2⟩ := ats_nds A2.out b hb
      rw [e, h1] at h2
      cases h2
     have A4 : Hid (AtS ((w2.drew.putObj (z + 1 + 1) o1).putObj (z + 1 + 1) o2) t) := Lib.hid (A2.out.keep fun b o ho hm => (World.putObj_heap_other (hnd b hm)).trans ((World.putObj_heap_other (hnd b hm)).trans ho))
     have XE4 := Lib.hid hS
     have l2' := l2
     generalize (w2.drew.putObj (z + 1 + 1) o1).putObj (z + 1 + 1) o2 = w4 at *
     clear hS l0 l1 hme hes S3 hSd X02 X12 HB2 A2 S2 XE2 hnd
     have q0 := cell_of_row _ _ 0 _ _ _ XE4.out
     have q1 := cell_of_row _ _ 1 _ _ _ XE4.out
     have q2 := cell_of_row _ _ 2 _ _ _ XE4.out
     have q3 := cell_of_row _ _ 3 _ _ _ XE4.out
     have q4 := cell_of_row _ _ 4 _ _ _ XE4.out
     have q5 := cell_of_row _ _ 5 _ _ _ XE4.out
     have k0 := cell_of_one X04.out
     have f0 := frozen_of_row _ z 0 _ _ X04.out
     cases hok : okV x with
     | false =>
      obtain rfl := K2.out hok
      have hbad := Lib.hid (GB.out (.inl hok))
      go_wp2_with fail
      have k1 := cell_of_one (heap_setCell_same w4 z 0 _ _ (.pointer none) X04.out)
      refine bodyPost_ret (v := .tuple #[.agg #[.pointer none], .int .i64 2]) (by simp [results, Tryz.results9, go_sem, k1]) rfl ?_
      exact OUT2.out _ _ hbad.out rfl (HB4.out.setCell (p := ⟨z, 0, none⟩) (Nat.le_refl _) _)
     | true =>
      obtain ⟨rfl, rfl⟩ := K0.out hok
      by_cases hin : ∃ y ∈ l.take k, y.1 = x.1
      · have hbad := Lib.hid (GB.out (.inr hin))
        obtain rfl := (C1.out hin).symm
        have hgt : (1 : Int) < 1 + 1 := by omega
        go_wp2_with fail
        have k1 := cell_of_one (heap_setCell_same w4 z 0 _ _ (.pointer none) X04.out)
        refine bodyPost_ret (v := .tuple #[.agg #[.pointer none], .int .i64 2]) (by simp [results, Tryz.results9, go_sem, k1]) rfl ?_
        exact OUT2.out _ _ hbad.out rfl (HB4.out.setCell (p := ⟨z, 0, none⟩) (Nat.le_refl _) _)
      · have hno : ∀ y ∈ l.take k, y.1 ≠ x.1 := fun y hy e => hin ⟨y, hy, e⟩
        have HM2 := Lib.hid (GS.out hok hno)
        have SE4 : Hid (SeMap w4 (z + 1 + 1) (cntS (l.take (k + 1)))) := Lib.hid (by rw [← GC.out hno]; exact S4.out)
        obtain rfl := (C0.out hno).symm
        have hOK := Lib.hid hok
        have m1 := cell_of_one X14.out
        clear hin hno
        obtain ⟨kb, hkb⟩ : ∃ b, tagK x = b := ⟨_, rfl⟩
        have HKB := Lib.hid hkb
        rw [hkb]
        clear hkb
        go_wp2_with fail
        refine (pm_MPutS t kb x.2 z w4 (by have := (Array.getElem?_eq_some_iff.1 X04.out).1; omega) A4.out (by omega)).mono ?_
        rintro e w5 ⟨t', hP, rfl, hA5, hb5⟩
        have HB5 := Lib.hid (HB4.out.trans (hb5.mono (by have := (Array.getElem?_eq_some_iff.1 X04.out).1; omega)))
        have X05 := Lib.hid (boxStays X04.out hb5)
        have X15 := Lib.hid (boxStays X14.out hb5)
        have A5 := Lib.hid hA5
        have SE5 := Lib.hid (SE4.out.below hb5)
        have TG2 : Hid (Tag (setT (l.take (k + 1))) t') := Lib.hid (by
         rw [GP.out]
         refine tag_put HTG.out hOK.out (hP.bal HTG.out.bal).1 ?_
         rw [HKB.out]
         exact hP.items HTG.out.srt)
        clear hP hA5 hb5 m1 q0 q1 q2 q3 q4 q5 k0 f0
        have f0 := frozen_of_row _ (z + 1) 0 _ _ X15.out
        have k0 := cell_of_one X15.out
        go_wp2_with fail
        have X16 := Lib.hid (heap_setCell_same w5 (z + 1) 0 _ _ (.pointer (pa t')) X15.out)
        have X06 : Hid ((w5.setCell ⟨z + 1, 0, none⟩ (.pointer (pa t'))).heap[z]? = some (.cells #[.pointer none] 27 (0, 0))) := Lib.hid ((Below.heap_setCell _ _ _ _ (by simp)).trans X05.out)
        have A6 := Lib.hid (A5.out.setBox X15.out (by decide) 0 (.pointer (pa t')))
        have HB6 := Lib.hid (HB5.out.setCell (p := ⟨z + 1, 0, none⟩) (by simp) (.pointer (pa t')))
        have SE6 : Hid (SeMap (w5.setCell ⟨z + 1, 0, none⟩ (.pointer (pa t'))) (z + 1 + 1) (cntS (l.take (k + 1)))) := Lib.hid (by
         obtain ⟨es, cl, ps, h1, h2⟩ := SE5.out
         exact ⟨es, cl, ps, (Below.heap_setCell _ _ _ _ (by simp)).trans h1, h2⟩)
        go_roundw
        case rel => exact ⟨k + 1, t', by omega, by go_num, HM2, TG2, A6, X06, X16, SE6, HB6⟩
        case measure => simp [intOf]; omega
  · obtain rfl : k = n := by omega
    have HMF : Hid (mayV l = true) := Lib.hid (by have := HM.out; rw [HN.out, List.take_length] at this; exact this)
    have HIF : Hid (Tag (setT l) t) := Lib.hid (by have := HTG.out; rw [HN.out, List.take_length] at this; exact this)
    have f0 := frozen_of_row _ z 0 _ _ X0.out
    have k0 := cell_of_one X0.out
    have m0 := cell_of_one X1.out
    go_wp2_with fail
    have k1 := cell_of_one (heap_setCell_same wr z 0 _ _ (.pointer (pa t)) X0.out)
    refine bodyPost_ret (v := .tuple #[.agg #[.pointer (pa t)], .int .i64 0]) (by simp [results, Tryz.results9, go_sem, k1]) rfl ?_
    exact OUT1.out t _ _ HMF.out rfl (HAt.out.setBox X0.out (by decide) 0 _) HIF.out (HB.out.setCell (p := ⟨z, 0, none⟩) (Nat.le_refl _) _)
end Go.Proofs.YtjlliohjeiclaaaGreatDoor
namespace Go.Proofs.YtjlliohjeiclaaaGreatDoor
open Go.RowKit St Pm
theorem KeepE.own {M base size n : Nat} {S : Nat → Prop} {e : TypeId} {v : Value} {xs : List Value} {A B : World} (h : KeepE M S (fun _ => False) A B) (ho : A.ownsRow base e size v n xs) (hM : M ≤ base) : B.ownsRow base e size v n xs := by
 refine ⟨ho.1, ?_⟩
 rcases ho.2 with h1 | ⟨g, cap, cur, hv, hb, hg, h3⟩
 · exact .inl h1
 · exact .inr ⟨g, cap, cur, hv, hb, h.rest g _ (by omega) hg (fun _ _ _ _ h => h), h3⟩
def shown (t : Tr ByteArray) : List Ev := if (items t).all goodP = true then (items t).map decV else []
theorem Reg.shown {l : List Ev} {t : Tr ByteArray} (h : Reg l t) : shown t = l := by unfold Go.Proofs.YtjlliohjeiclaaaGreatDoor.shown; rw [if_pos h.good, h.dec]
theorem heap_kept {A A' : World} {row : Option Nat} (hg : A.grownBy A' row) (hr : ∀ r, row = some r → ∃ o : Obj, A.heap[r]? = some o ∧ o.isCells = false) {g : Nat} {c : Array Value} {t : TypeId} {fr : Nat × Nat} (h : A.heap[g]? = some (.cells c t fr)) : A'.heap[g]? = some (.cells c t fr) := by
 refine (hg.block g (Array.getElem?_eq_some_iff.1 h).1 fun e => ?_).trans h
 obtain ⟨o, ho, hc⟩ := hr g e.symm
 rw [h] at ho; cases ho; cases hc
end Go.Proofs.YtjlliohjeiclaaaGreatDoor
namespace Go.Proofs.YtjlliohjeiclaaaGreatDoor
open Go.RowKit St Pm
attribute [local go_sem] Oper.semAt_some
def encKey (p : ByteArray × ByteArray) : Array Value := #[.string p.1]
def GoesTags (n gf : Nat) (lb : Array Value) (S : Nat → Prop) (Ex : TypeId → Prop) (L : List (ByteArray × ByteArray)) (w : World) : Prop :=
 Iter2 n Tryz.prog gf lb encKey (KeepE (w.heap.size + 2) S Ex) (fun pre x _ => pre ++ [x] <+: L) (fun _ xs W2 W' => xs = L ∧ Below (w.heap.size + 2) W2 W' ∧ ∀ (k : Nat) (c : Array Value) (t : TypeId) (fr : Nat × Nat), W2.heap[k]? = some (Obj.cells c t fr) → W'.heap[k]? = some (Obj.cells c t fr)) (fun pre => pre <+: L) w
theorem ts_tags (tr : Tr ByteArray) (x : ByteArray) (w : World) : Calls Tryz.prog 65 #[.agg #[.pointer (pa tr)], .string x] w fun e w' =>
 ∃ tb mb, e = .returned (.func (.func 109) #[] #[.pointer (some ⟨tb, 0, none⟩), .pointer (some ⟨mb, 0, none⟩)]) ∧ w.heap.size ≤ mb ∧ w.heap.size ≤ tb ∧ Boxed w' mb 27 (.pointer (pa tr)) ∧
  w'.heap[tb]? = some (.cells #[.string x] 9 (0, 0)) ∧ Below w.heap.size w w' := by
 have HC : Hid (Chain [w] w) := Lib.hid (Chain.one w)
 go_enter Tryz.func65, Tryz.ntmps65
 go_upto_region 1 with (fail)
 obtain ⟨z, hz⟩ : ∃ c, w.heap.size = c := ⟨_, rfl⟩
 try rw [hz]
 obtain ⟨w1, hw1⟩ : ∃ X, allocs w [.cells #[.pointer (pa tr)] 27, .cells #[.string x] 9] = X := ⟨_, rfl⟩
 rw [show (w.alloc (.cells #[.pointer (pa tr)] 27)).alloc (.cells #[.string x] 9) = w1 from hw1]
 have hb : Below w.heap.size w w1 := by rw [← hw1]; exact allocs_below _ _
 have HM : Hid (w1.heap[z]? = some (.cells #[.pointer (pa tr)] 27 (0, 0))) := Lib.hid (by have := allocs_get [.cells #[.pointer (pa tr)] 27, .cells #[.string x] 9] w 0 _ rfl; rw [hw1, hz] at this; exact this)
 have HS : Hid (w1.heap[z + 1]? = some (.cells #[.string x] 9 (0, 0))) := Lib.hid (by have := allocs_get [.cells #[.pointer (pa tr)] 27, .cells #[.string x] 9] w 1 _ rfl; rw [hw1, hz] at this; exact this)
 have Sz : Hid (w.heap.size = z) := Lib.hid hz
 replace HC := Lib.hid (HC.out.push hb)
 clear hb hw1 hz
 go_wp2_with fail
 go_ret
 exact ⟨z + 1, z, rfl, by have := Sz.out; omega, by have := Sz.out; omega, HM.out, HS.out, (HC.out.to w (by simp))⟩
theorem fromL_subT (key : ByteArray) : ∀ (t : Tr ByteArray) (p : ByteArray × ByteArray), p ∈ fromL key t → p ∈ items t
 | .nil, p, h => by cases h
 | .node b l k v r, p, h => by
  simp only [fromL] at h
  simp only [items, List.mem_append, List.mem_cons]
  split at h
  · exact .inr (.inr (fromL_subT key r p h))
  · rcases List.mem_append.1 h with h | h
    · exact .inl (fromL_subT key l p h)
    · rcases List.mem_cons.1 h with rfl | h
      · exact .inr (.inl rfl)
      · exact .inr (.inr (fromL_subT key r p h))
theorem KeepE.narrowT {M M' : Nat} {S S' : Nat → Prop} {Ex : TypeId → Prop} {A B : World} (h : KeepE M S Ex A B) (hM : M ≤ M') (hS : ∀ k, S' k → S k ∨ (M ≤ k ∧ ∃ (c : Array Value) (t : TypeId) (fr : Nat × Nat), A.heap[k]? = some (.cells c t fr) ∧ ¬ Ex t)) : KeepE M' S' Ex A B :=
 ⟨h.os, h.tape, h.output, h.size, fun k hk => by
  rcases hS k hk with h1 | ⟨h1, c, t, fr, h2, h3⟩
  · exact h.block k h1
  · rw [h.rest k _ h1 h2 (fun _ _ _ e => by cases e; exact h3), h2], fun k o hk ho hc => h.rest k o (Nat.le_trans hM hk) ho hc⟩
theorem keepE_ownT {β : Type} {M : Nat} {S : Nat → Prop} {Ex : TypeId → Prop} {A : World} (hS : ∀ k, S k → k < A.heap.size) : OwnFrom A.heap.size (fun (_ : β) W => KeepE M S Ex A W) := by
 rintro _ X Y row h hg hr
 have hne : ∀ k, k < A.heap.size → k < X.heap.size → Y.heap[k]? = X.heap[k]? := fun k hk hx => hg.block k hx (fun e => by have := (hr k e.symm).1; omega)
 exact ⟨hg.os.trans h.os, hg.tape.trans h.tape, hg.output.trans h.output, Nat.le_trans h.size hg.size, fun k hk => (hne k (hS k hk) (Nat.lt_of_lt_of_le (hS k hk) h.size)).trans (h.block k hk), fun k o hk ho hc => by
  have hk2 := (Array.getElem?_eq_some_iff.1 ho).1
  exact (hne k hk2 (Nat.lt_of_lt_of_le hk2 h.size)).trans (h.rest k o hk ho hc)⟩
def TnI (J : List (ByteArray × ByteArray) → World → Prop) (x : ByteArray) (M : Nat) (S : Nat → Prop) (Ex : TypeId → Prop) (W5 : World) (pre : List (ByteArray × ByteArray)) (V : World) : Prop :=
 (∀ p ∈ pre, preT x p = true) ∧ J pre V ∧ KeepE M S Ex W5 V
theorem tnI_own {J : List (ByteArray × ByteArray) → World → Prop} {x : ByteArray} {M B : Nat} {S : Nat → Prop} {Ex : TypeId → Prop} {W5 : World} (hJo : OwnFrom B J) (hB : B ≤ W5.heap.size) (hS : ∀ k, S k → k < W5.heap.size) : OwnFrom W5.heap.size (TnI J x M S Ex W5) := by
 rintro pre A A' row ⟨h0, h1, h2⟩ hg hr
 exact ⟨h0, hJo _ A A' row h1 hg (fun r e => ⟨Nat.le_trans hB (hr r e).1, (hr r e).2⟩), keepE_ownT (β := Unit) hS () A A' row h2 hg hr⟩
def TnX (J Jx : List (ByteArray × ByteArray) → World → Prop) (L : List (ByteArray × ByteArray)) (V : World) : Prop := J L V ∨ ∃ p, p <+: L ∧ Jx p V
theorem tnX_own {β : Type} {J Jx : List (ByteArray × ByteArray) → World → Prop} {L : List (ByteArray × ByteArray)} {B C : Nat} (hJ : OwnFrom B J) (hJo : OwnFrom B Jx) (hB : B ≤ C) : OwnFrom C (fun (_ : β) V => TnX J Jx L V) := by
 rintro _ A A' row (h1 | ⟨p, h1, h2⟩) hg hr
 · exact .inl (hJ _ A A' row h1 hg (fun r e => ⟨Nat.le_trans hB (hr r e).1, (hr r e).2⟩))
 · exact .inr ⟨p, h1, hJo _ A A' row h2 hg (fun r e => ⟨Nat.le_trans hB (hr r e).1, (hr r e).2⟩)⟩
theorem tags_stop {x : ByteArray} {t : Tr ByteArray} {pre : List (ByteArray × ByteArray)} {q : ByteArray × ByteArray} (h : pre ++ [q] <+: fromL (frontB x) t) (hp : ∀ p ∈ pre, preT x p = true) (hq : preT x q = false) : tagsL x t = pre := by
 obtain ⟨r, hr⟩ := h
 unfold tagsL
 rw [← hr, List.append_assoc, List.takeWhile_append_of_pos hp, List.cons_append, List.takeWhile_cons_of_neg (by rw [hq]; simp), List.append_nil]
theorem tags_go {x : ByteArray} {t : Tr ByteArray} {pre : List (ByteArray × ByteArray)} (h : pre <+: fromL (frontB x) t) (hp : ∀ p ∈ pre, preT x p = true) : pre <+: tagsL x t := by
 obtain ⟨r, hr⟩ := h
 unfold tagsL
 rw [← hr, List.takeWhile_append_of_pos hp]
 exact ⟨_, rfl⟩
theorem tags_all {x : ByteArray} {t : Tr ByteArray} (hp : ∀ p ∈ fromL (frontB x) t, preT x p = true) : tagsL x t = fromL (frontB x) t := by
 unfold tagsL
 have := List.takeWhile_append_of_pos (l₂ := []) hp
 simpa using this
set_option maxRecDepth 100000 in
set_option maxHeartbeats 4000000 in
theorem ts_tags1 (n : Nat) (hn : 4 ≤ n) (tr : Tr ByteArray) (x : ByteArray) (tb mb : Nat) (w : World) (S : Nat → Prop) (Ex : TypeId → Prop) (hEx : ∀ t, Ex t → t = 43) (hs : w.heap[tb]? = some (.cells #[.string x] 9 (0, 0))) (hm : Boxed w mb 27 (.pointer (pa tr))) (h : AtS w tr) (hx : x.size ≤ 4294967280) (hG : Glob w)
 (hS : ∀ k, S k → k < w.heap.size) (hSt : ∀ b ∈ blocks tr, S b) :
 GoesTags n 109 #[.pointer (some ⟨tb, 0, none⟩), .pointer (some ⟨mb, 0, none⟩)] S Ex (tagsL x tr) w := by
 intro ll J Jx W hW hW2 hJo hJxo hY h0
 have hJ : ∀ pre A B, J pre A → Below A.heap.size A B → J pre B := fun pre A B h hb => ownFrom_to hJo h hb
 have E1 : ¬ Ex 9 := fun h => by have := hEx _ h; revert this; decide
 have E2 : ¬ Ex 103 := fun h => by have := hEx _ h; revert this; decide
 have E3 : ¬ Ex 27 := fun h => by have := hEx _ h; revert this; decide
 have HSB : Hid (W.heap[tb]? = some (.cells #[.string x] 9 (0, 0))) := Lib.hid (boxStays hs hW)
 have HMB : Hid (W.heap[mb]? = some (.cells #[.pointer (pa tr)] 27 (0, 0))) := Lib.hid (boxStays hm hW)
 have T := Lib.hid (h.below hW rfl)
 have HG := Lib.hid (hG.below hW)
 have HW2 := Lib.hid hW2
 have HHW := Lib.hid hW
 have HY := Lib.hid hY
 have HJ := Lib.hid hJ
 have HJo := Lib.hid hJo
 have HJxo := Lib.hid hJxo
 have HSS := Lib.hid hS
 have HST := Lib.hid hSt
 have H0 := Lib.hid h0
 have STOP := Lib.hid (fun pre q => tags_stop (x := x) (t := tr) (pre := pre) (q := q))
 have GO := Lib.hid (fun pre => tags_go (x := x) (t := tr) (pre := pre))
 have ALL := Lib.hid (tags_all (x := x) (t := tr))
 have FR := Lib.hid (fun V (hV : Glob V) => ts_front x V hx hV)
 have PRE : Hid (∀ p : ByteArray × ByteArray, Lib.hasPrefix p.1.data.toList (frontB x).data.toList = preT x p) := Lib.hid (fun p => rfl)
 obtain ⟨L, hL⟩ : ∃ q, tagsL x tr = q := ⟨_, rfl⟩
 obtain ⟨f, hf⟩ : ∃ q, frontB x = q := ⟨_, rfl⟩
 rw [hL] at HY ⊢
 simp only [hL, hf] at STOP GO ALL
 rw [hf] at PRE
 simp only [hf] at FR
 clear hW hW2 hY h0 hm hs h hS hSt hJo hJxo hJ hG hL hf
 refine callsIn_of_wp_marks Tryz.func109 rfl trivial ?_ rfl
 simp only [Tryz.ntmps109, List.size_toArray, List.length_cons, List.length_nil, Nat.reduceAdd, Nat.reduceSub, Array.replicate_succ, Array.replicate_zero, List.push_toArray, List.append_toArray, List.nil_append, List.cons_append]
 refine wpIn_wide.2 ?_
 have HC : Hid (Chain [W] W) := Lib.hid (Chain.one W)
 go_upto_region 1 with (fail)
 obtain ⟨yb, hyb⟩ : ∃ c, W.heap.size = c := ⟨_, rfl⟩
 try rw [hyb]
 obtain ⟨W1, hW1⟩ : ∃ X, allocs W [.cells #[.func (.yield ll) #[] #[]] 103] = X := ⟨_, rfl⟩
 rw [show W.alloc (.cells #[.func (.yield ll) #[] #[]] 103) = W1 from hW1]
 have hb : Below W.heap.size W W1 := by rw [← hW1]; exact allocs_below _ _
 have HYB : Hid (W1.heap[yb]? = some (.cells #[.func (.yield ll) #[] #[]] 103 (0, 0))) := Lib.hid (by have := allocs_get [.cells #[.func (.yield ll) #[] #[]] 103] W 0 _ rfl; rw [hW1, hyb] at this; exact this)
 have Syb : Hid (W.heap.size = yb) := Lib.hid hyb
 replace HC := Lib.hid (HC.out.push hb)
 clear hb hW1 hyb
 have kSB0 := cell_of_one (boxStays HSB.out (HC.out.to W (by simp)))
 go_wp2_with fail
 refine (FR.out _ (HG.out.below (HC.out.to W (by simp)))).mono ?_
 rintro e W2 ⟨rfl, hb⟩
 clear kSB0
 replace HC := Lib.hid (HC.out.push hb)
 clear hb
 have W2Z : Hid (W.heap.size ≤ W2.heap.size) := Lib.hid (HC.out.to W (by simp)).size
 go_upto_region 2 with (fail)
 obtain ⟨fb, hfb⟩ : ∃ c, W2.heap.size = c := ⟨_, rfl⟩
 try rw [hfb]
 obtain ⟨W3, hW3⟩ : ∃ X, allocs W2 [.cells #[.string f] 9] = X := ⟨_, rfl⟩
 rw [show W2.alloc (.cells #[.string f] 9) = W3 from hW3]
 have hb : Below W2.heap.size W2 W3 := by rw [← hW3]; exact allocs_below _ _
 have HFB : Hid (W3.heap[fb]? = some (.cells #[.string f] 9 (0, 0))) := Lib.hid (by have := allocs_get [.cells #[.string f] 9] W2 0 _ rfl; rw [hW3, hfb] at this; exact this)
 have Sfb : Hid (W2.heap.size = fb) := Lib.hid hfb
 replace HC := Lib.hid (HC.out.push hb)
 clear hb hW3 hfb
 have kMB0 := cell_of_one (boxStays HMB.out (HC.out.to W (by simp)))
 have kFB0 := cell_of_one HFB.out
 have W3Z : Hid (W.heap.size ≤ W3.heap.size) := Lib.hid (HC.out.to W (by simp)).size
 go_wp2_with fail
 refine (pm_MFromS tr f _).mono ?_
 rintro e W5 ⟨kb, mb2, rfl, hkb, hmb, hbk, hbm, hb⟩
 clear kMB0 kFB0
 replace HC := Lib.hid (HC.out.push hb)
 clear hb
 have BW5 := Lib.hid (HC.out.to W (by simp))
 have HY5 := Lib.hid (boxStays HYB.out (HC.out.to W1 (by simp)))
 have HF5 := Lib.hid (boxStays HFB.out (HC.out.to W3 (by simp)))
 have hT5 := T.out.below (HC.out.to W (by simp)) rfl
 have hw5 : W.heap.size ≤ W5.heap.size := (HC.out.to W (by simp)).size
 have hM5 : w.heap.size + 2 ≤ W5.heap.size := Nat.le_trans HW2.out hw5
 have hyb : w.heap.size + 2 ≤ yb ∧ yb < W5.heap.size := ⟨by rw [← Syb.out]; exact HW2.out, (Array.getElem?_eq_some_iff.1 HY5.out).1⟩
 have hfb : w.heap.size + 2 ≤ fb ∧ fb < W5.heap.size := ⟨by rw [← Sfb.out]; exact Nat.le_trans HW2.out W2Z.out, (Array.getElem?_eq_some_iff.1 HF5.out).1⟩
 have hkbz : w.heap.size + 2 ≤ kb := Nat.le_trans (Nat.le_trans HW2.out W3Z.out) hkb
 have hS5 : ∀ k, S k → k < W5.heap.size := fun k hk => by have := HSS.out k hk; omega
 have hSlt : ∀ k, (k = kb ∨ k ∈ blocks tr) → k < W5.heap.size := fun k hk => by
  rcases hk with rfl | hk
  · exact (Array.getElem?_eq_some_iff.1 hbk).1
  · exact hT5.lt k hk
 have HIter := pm_from_iterS (n - 1) f tr kb mb2 W5 (fun k => k = kb ∨ k ∈ blocks tr) Ex hbk hbm hT5 (.inl rfl) (fun k hk => .inr hk) hSlt (by first | exact E1 | exact E2 | exact E3 | (intro h; have := hEx _ h; revert this; decide)) (by first | exact E1 | exact E2 | exact E3 | (intro h; have := hEx _ h; revert this; decide))
 have r5 : TnI J x (w.heap.size + 2) S Ex W5 [] W5 := ⟨fun p hp => (by cases hp), HJ.out _ _ _ H0.out BW5.out, KeepE.refl _⟩
 have OWN := tnI_own (x := x) (M := w.heap.size + 2) (Ex := Ex) HJo.out hw5 hS5
 have HKB := Lib.hid hbk
 clear hT5 hbk hbm hkb hmb HC
 go_wp2_with fail
 refine (wpIn_wide (n := n)).1 ?_
 refine range_law2 (n := n) rfl (enters_of Tryz.func141 (by kernel_rfl) rfl) HIter (by omega) KeepE.trans (fun W o o' _ _ => KeepE.put W _ o' (by omega) (fun k hk => by have := hSlt k hk; omega)) (fun x => rfl) (fun pre => (by rintro _ _ _ _ h _ _; exact h)) ?_ (TnI J x (w.heap.size + 2) S Ex W5) (fun c pre V => c = .ret ∧ TnX J Jx L V) (fun xs V => xs = fromL f tr ∧ TnI J x (w.heap.size + 2) S Ex W5 xs V) OWN ?_ ?_ ?_ r5
  (fun pre q a' V => TnI J x (w.heap.size + 2) S Ex W5 pre V ∧ pre ++ [q] <+: fromL f tr ∧ a' = { tmps := #[.func (.yield ll) #[] #[], .pointer (some ⟨tb, 0, none⟩), .pointer (some ⟨mb, 0, none⟩), .pointer (some ⟨yb, 0, none⟩), .pointer (some ⟨fb, 0, none⟩), .string q.1, .string x, .string f, .agg #[.pointer (pa tr)], .string f, .func (.func 141) #[] #[.pointer (some ⟨kb, 0, none⟩), .pointer (some ⟨mb2, 0, none⟩)], .string q.1, .string q.2, undef, undef, undef, undef, undef, undef, undef, undef, undef, undef], defers := [] }) ?_ ?assign ?body ?done ?stop
 · rintro W1 _ xs A B ⟨_, rfl⟩ k o _ ho _; exact ho
 · rintro c xs A A' row ⟨h1, h2⟩ hg hr
   exact ⟨h1, tnX_own (β := Unit) HJo.out HJxo.out hw5 () A A' row h2 hg hr⟩
 · rintro xs A A' row ⟨h1, h2⟩ hg hr
   exact ⟨h1, OWN xs A A' row h2 hg hr⟩
 · rintro W1 _ xs A B h ⟨h1, rfl⟩; exact ⟨h1, h⟩
 · rintro q a' pre A A' row ⟨h1, h2, h3⟩ hg hr
   exact ⟨OWN pre A A' row h1 hg hr, h2, h3⟩
 case assign =>
  intro l pre q V K hi hx hsz hK
  have HI := Lib.hid hi
  clear hi
  simp only [encKVS, List.zip_toArray, List.zip_cons_cons, List.zip_nil_right, List.foldl_toArray, List.foldl_cons, List.foldl_nil]
  gi_wp2
  exact hK _ _ ⟨Nat.le_refl _, fun _ _ _ h _ => h⟩ (KeepE.refl _) hsz ⟨HI.out, hx, rfl⟩
 case body =>
  rintro l pre ⟨k, v⟩ a' V ⟨⟨h0, h1, h2⟩, hp, rfl⟩ hsz
  have P6 := Lib.hid h0
  have J6 := Lib.hid h1
  have K6 := Lib.hid h2
  have HP := Lib.hid hp
  have Y6 := Lib.hid (h2.rest yb _ hyb.1 HY5.out (fun _ _ _ e => by cases e; exact E2))
  have F6 := Lib.hid (h2.rest fb _ hfb.1 HF5.out (fun _ _ _ e => by cases e; exact E1))
  have KB6 := Lib.hid (h2.rest kb _ hkbz HKB.out (fun _ _ _ e => by cases e; exact E1))
  have GO1 : Hid (∀ X, Below V.heap.size V X → KeepE (w.heap.size + 2) S Ex V X) := Lib.hid (fun X hX => KeepE.below hX (fun k hk => by have := hS5 k hk; omega))
  have KF : Hid (∀ X, KeepE (w.heap.size + 2) S Ex V X → KeepsFrom W5.heap.size V X ∧ KeepE (W5.heap.size + 2) (fun k => k = kb ∨ k ∈ blocks tr) Ex V X) := Lib.hid (fun X hX =>
   ⟨⟨hX.size, fun k o hk ho hc => hX.rest k o (by omega) ho (fun _ _ _ e => by rw [e] at hc; cases hc)⟩, hX.narrowT (by omega) (fun k hk => by
    rcases hk with rfl | hk
    · exact .inr ⟨hkbz, _, _, _, KB6.out, E1⟩
    · exact .inl (HST.out k hk))⟩)
  obtain ⟨pr, hpr⟩ : ∃ b, preT x (k, v) = b := ⟨_, rfl⟩
  have HPF : Hid (∀ X, Calls Tryz.prog 111 #[.string k, .string f] X fun e w' => e = .returned (.bool pr) ∧ w' = X) := Lib.hid (fun X => by rw [← hpr, ← PRE.out (k, v)]; exact ts_HasPrefix k f X)
  have HPR := Lib.hid hpr
  have y0 := cell_of_one Y6.out
  have f0 := cell_of_one F6.out
  clear HIter r5 h0 h1 h2 hp hpr OWN
  gi_wp2
  refine ⟨trivial, fun _ => by omega, ?_⟩
  refine (CallsIn.inRound l (callsIn_wide.2 (HPF.out V))).mono ?_
  rintro e _ ⟨rfl, rfl⟩
  cases pr
  case false =>
   have FIN := Lib.hid (show TnX J Jx L _ from .inl (by rw [STOP.out pre (k, v) HP.out P6.out HPR.out]; exact J6.out))
   have KK := Lib.hid (KF.out _ (KeepE.refl _))
   gi_wp2
   first
    | exact ⟨KK.out.1, KK.out.2, rfl, FIN.out⟩
    | (refine ⟨fun f h => (by cases h), ?_⟩; gi_wp2; exact ⟨KK.out.1, KK.out.2, rfl, FIN.out⟩)
  case true =>
   have P7 : Hid (∀ p ∈ pre ++ [(k, v)], preT x p = true) := Lib.hid (fun p hp => by
    rcases List.mem_append.1 hp with hp | hp
    · exact P6.out p hp
    · rw [List.mem_singleton.1 hp]; exact HPR.out)
   have PX := Lib.hid (GO.out (pre ++ [(k, v)]) HP.out P7.out)
   have HYY := yieldW (m' := 5) (HY.out pre (k, v) _ J6.out PX.out)
   obtain ⟨fn, tmps, assign, body', hyy, hRR⟩ := HYY
   simp only [encKey] at hyy
   have RR := Lib.hid hRR
   clear hRR
   gi_wp2
   refine ⟨fun _ => by omega, RoundIn.mono (roundR RR.out) ?_⟩
   rintro e V4 (⟨rfl, hJ', hk⟩ | ⟨rfl, hJx', hk⟩)
   · have KK := Lib.hid (KF.out _ hk)
     have FIN := Lib.hid (show TnI J x (w.heap.size + 2) S Ex W5 (pre ++ [(k, v)]) V4 from ⟨P7.out, hJ', K6.out.trans hk⟩)
     clear hJ' hk hyy
     gi_wp2
     exact ⟨KK.out.1, KK.out.2, FIN.out⟩
   · have KK := Lib.hid (KF.out _ hk)
     have FIN := Lib.hid (show TnX J Jx L V4 from .inr ⟨_, PX.out, hJx'⟩)
     clear hJx' hk hyy
     gi_wp2
     exact ⟨KK.out.1, KK.out.2, rfl, FIN.out⟩
 case done =>
  rintro D xs V hD ⟨rfl, h0, h1, h2⟩ hK
  have HKD := Lib.hid hK
  have J6 := Lib.hid h1
  have HL := Lib.hid (ALL.out h0)
  clear HIter r5 h0 h1 h2 hK OWN
  simp only [Exit.inBlock]
  go_wp2_with fail
  try show LeavesInM _ _ _ _ _ _ (marks [D]) _ _
  refine leaves_marks [D] _ (by simp) (fun p hp => ?_) ?_
  · obtain rfl : p = (D, .deferred (some [])) := by simpa [markF] using hp
    exact HKD.out
  · intro W' e1 e2 e3 e4 e5
    exact ⟨.tuple #[], by simp [results, Tryz.results109, go_sem], ⟨_, rfl⟩, .inl ⟨fromL f tr, V, J6.out, HL.out.symm, ⟨e1, e2, e3, Nat.le_of_eq e4.symm, fun k hk => e5 k (by simp; omega)⟩, fun k c t fr hk => (e5 k (by simp; rintro rfl; rw [HKD.out] at hk; cases hk)).trans hk⟩⟩
 case stop =>
  rintro D c pre V hD hSp ⟨rfl, hx⟩ hK
  have HKD := Lib.hid hK
  have JX := Lib.hid hx
  clear HIter r5 hx hK OWN
  gi_wp2
  try show LeavesInM _ _ _ _ _ _ (marks [D]) _ _
  refine leaves_marks [D] _ (by simp) (fun p hp => ?_) ?_
  · obtain rfl : p = (D, .deferred (some [])) := by simpa [markF] using hp
    exact HKD.out
  · intro W' e1 e2 e3 e4 e5
    refine ⟨.tuple #[], by simp [results, Tryz.results109, go_sem], ⟨_, rfl⟩, ?_⟩
    rcases JX.out with h | ⟨p, hp, hx⟩
    · exact .inl ⟨L, V, h, rfl, ⟨e1, e2, e3, Nat.le_of_eq e4.symm, fun k hk => e5 k (by simp; omega)⟩, fun k c t fr hk => (e5 k (by simp; rintro rfl; rw [HKD.out] at hk; cases hk)).trans hk⟩
    · exact .inr ⟨p, hp, HJxo.out p V W' (some D) hx ⟨e1, e2, e3, Nat.le_of_eq e4.symm, fun k _ hne => e5 k (by simp; exact fun e => hne (by rw [e]))⟩ (fun r e => by cases e; exact ⟨by omega, _, HKD.out, rfl⟩)⟩
end Go.Proofs.YtjlliohjeiclaaaGreatDoor
namespace Go.Proofs.YtjlliohjeiclaaaGreatDoor
open Go.RowKit
structure KeepX (Ex : Nat → TypeId → Prop) (A B : World) : Prop where
 os : B.os = A.os
 tape : B.tape = A.tape
 output : B.output = A.output
 size : A.heap.size ≤ B.heap.size
 rest : ∀ k o, A.heap[k]? = some o → (∀ c t fr, o = .cells c t fr → ¬ Ex k t) → B.heap[k]? = some o
theorem KeepX.refl {Ex : Nat → TypeId → Prop} (A : World) : KeepX Ex A A := ⟨rfl, rfl, rfl, Nat.le_refl _, fun _ _ h _ => h⟩
theorem KeepX.trans {Ex : Nat → TypeId → Prop} {A B C : World} (h : KeepX Ex A B) (k : KeepX Ex B C) : KeepX Ex A C :=
 ⟨k.os.trans h.os, k.tape.trans h.tape, k.output.trans h.output, Nat.le_trans h.size k.size, fun i o ho ht => k.rest i o (h.rest i o ho ht) ht⟩
theorem KeepX.monoX {Ex Ex' : Nat → TypeId → Prop} {A B : World} (h : KeepX Ex A B) (hx : ∀ k t, Ex k t → Ex' k t) : KeepX Ex' A B :=
 ⟨h.os, h.tape, h.output, h.size, fun k o ho ht => h.rest k o ho fun c t fr e hh => ht c t fr e (hx k t hh)⟩
theorem KeepX.ofBelow {Ex : Nat → TypeId → Prop} {A B : World} (h : Below A.heap.size A B) : KeepX Ex A B :=
 ⟨h.os, h.tape, h.output, h.size, fun k _ ho _ => (h.block k (Array.getElem?_eq_some_iff.1 ho).1).trans ho⟩
theorem KeepX.drew {Ex : Nat → TypeId → Prop} {A B : World} (h : KeepX Ex A B) : KeepX Ex A B.drew := h.trans (KeepX.ofBelow (Below.refl _ B).drew)
theorem KeepX.alloc {Ex : Nat → TypeId → Prop} {A B : World} (h : KeepX Ex A B) (o : Obj) : KeepX Ex A (B.alloc o) :=
 h.trans (KeepX.ofBelow ((Below.refl _ B).alloc (Nat.le_refl _) o))
theorem KeepX.row {Ex : Nat → TypeId → Prop} {A B : World} (h : KeepX Ex A B) {b : Nat} {cs : Array Value} {t : TypeId} {fr : Nat × Nat} (hb : A.heap[b]? = some (.cells cs t fr)) (ht : ¬ Ex b t) : B.heap[b]? = some (.cells cs t fr) :=
 h.rest b _ hb fun c t' fr' e => by cases e; exact ht
theorem KeepX.setRow {Ex : Nat → TypeId → Prop} {A B : World} (h : KeepX Ex A B) {X : Nat} {cs : Array Value} {t : TypeId} {fr : Nat × Nat} (hX : B.heap[X]? = some (.cells cs t fr)) (ht : Ex X t) (i : Nat) (v : Value) : KeepX Ex A (B.setCell ⟨X, i, none⟩ v) :=
 ⟨h.os, h.tape, h.output, by simpa [World.setCell] using h.size, fun k o ho hn => (Below.heap_setCell _ _ _ _ (by
  show k ≠ X
  rintro rfl
  have h1 := h.rest k o ho hn
  rw [hX] at h1
  cases h1
  exact hn _ _ _ rfl ht)).trans (h.rest k o ho hn)⟩
def ChE (Ex : Nat → TypeId → Prop) (ws : List World) (w : World) : Prop := ∀ W ∈ ws, KeepX Ex W w
theorem ChE.one {Ex : Nat → TypeId → Prop} (w : World) : ChE Ex [w] w := fun W hW => by
 obtain rfl := List.mem_singleton.1 hW
 exact KeepX.refl _
theorem ChE.push {Ex : Nat → TypeId → Prop} {ws : List World} {w w' : World} (h : ChE Ex ws w) (hb : KeepX Ex w w') : ChE Ex (w' :: ws) w' := fun W hW => by
 rcases List.mem_cons.1 hW with rfl | hW
 · exact KeepX.refl _
 · exact (h W hW).trans hb
theorem ChE.to {Ex : Nat → TypeId → Prop} {ws : List World} {w : World} (h : ChE Ex ws w) (W : World) (hW : W ∈ ws) : KeepX Ex W w := h W hW
section
variable {P : Program} {ops : Array Oper} {Q : Exit → Act → World → Prop} {md : Region.Mode}
theorem wpAnyH_madeX {Ex : Nat → TypeId → Prop} {W w1 : World} {o : Obj} (hS : KeepX Ex W w1) {fuel : Nat} {listed : Array Bool} {a : Act}
 (h : ∀ w2, w2 = w1.alloc o → KeepX Ex W w2 → wpAnyH P md ops Q (fun w' => KeepX Ex W w') fuel listed a w2) : wpAnyH P md ops Q (fun w' => KeepX Ex W w') fuel listed a (w1.alloc o) :=
 h _ rfl (hS.alloc o)
end
end Go.Proofs.YtjlliohjeiclaaaGreatDoor
namespace Go.Proofs.YtjlliohjeiclaaaGreatDoor
open Go.RowKit St Pm
theorem KeepX.thenB {Ex : Nat → TypeId → Prop} {A B C : World} (h : KeepX Ex A B) (k : Below A.heap.size B C) : KeepX Ex A C :=
 ⟨k.os.trans h.os, k.tape.trans h.tape, k.output.trans h.output, Nat.le_trans h.size k.size, fun i o ho ht => (k.block i (Array.getElem?_eq_some_iff.1 ho).1).trans (h.rest i o ho ht)⟩
theorem CellsAt.keepX {z : Nat} {A B : World} {a : Option Addr} {vs : List Value} (h : CellsAt A a vs) (hk : KeepX (fun k _ => k = z) A B) (ha : ∀ ad, a = some ad → ad.block ≠ z) : CellsAt B a vs := by
 intro i hi
 obtain ⟨b, off, rfl, hc⟩ := h i hi
 refine ⟨b, off, rfl, ?_⟩
 have hne : b ≠ z := ha _ rfl
 unfold World.cell? at hc ⊢
 cases e : A.heap[b]? with
 | none => simp [e] at hc
 | some o =>
  have e2 := hk.rest b o e (fun _ _ _ _ h => hne h)
  simp only [e] at hc
  simp only [e2]
  exact hc
theorem KeepX.toBelowZ {z : Nat} {A B : World} (h : KeepX (fun k _ => k = z) A B) (hz : z ≤ A.heap.size) : Below z A B :=
 ⟨h.os, h.tape, h.output, h.size, fun k hk => by
  cases e : A.heap[k]? with
  | none => rw [Array.getElem?_eq_none_iff] at e; omega
  | some o => exact h.rest k o e fun _ _ _ _ e => by omega⟩
theorem AtS.keepZ {z : Nat} {A B : World} {t : Tr ByteArray} (h : AtS A t) (hk : KeepX (fun k _ => k = z) A B) {cs : Array Value} {T : TypeId} {fr : Nat × Nat} (hx : A.heap[z]? = some (.cells cs T fr)) (hT : T ≠ 111) : AtS B t :=
 h.keep fun b o ho hm => hk.rest b o ho fun _ _ _ _ e => by subst e; exact h.other hx hT hm
theorem els_keepX {z : Nat} {A B : World} {a : Option Addr} {L : List Ev} {p : Option Addr} {T : TypeId} {fr : Nat × Nat} (h : CellsAt A a (elsV L)) (hk : KeepX (fun k _ => k = z) A B) (hx : A.heap[z]? = some (.cells #[.pointer p] T fr)) : CellsAt B a (elsV L) := by
 cases L with
 | nil => exact CellsAt.nil _ _
 | cons e L =>
  obtain ⟨ba, oa, rfl, ca⟩ := els_get h 0 (by simp)
  refine h.keepX hk fun ad had => ?_
  cases had
  show ba ≠ z
  rintro rfl
  have h1 := ca.c0
  rw [cell_of_row _ _ _ _ _ _ hx] at h1
  cases oa with
  | zero => simp at h1
  | succ oa => simp at h1
end Go.Proofs.YtjlliohjeiclaaaGreatDoor
namespace Go.Proofs.YtjlliohjeiclaaaGreatDoor
open Go.RowKit St Pm
attribute [local go_sem] Oper.semAt_some
theorem ats_own {A A' : World} {row : Option Nat} {t : Tr ByteArray} (h : AtS A t) (hg : A.grownBy A' row) (hr : ∀ r, row = some r → ∃ o : Obj, A.heap[r]? = some o ∧ o.isCells = false) : AtS A' t :=
 h.keep fun b o ho hm => by
  obtain ⟨cs, h1⟩ := ats_nds h b hm
  rw [ho] at h1
  obtain rfl := Option.some.inj h1
  exact heap_kept hg hr ho
theorem delL_snoc (ks l : List (ByteArray × ByteArray)) (q : ByteArray × ByteArray) : delL (ks ++ [q]) l = del q.1 (delL ks l) := by unfold delL; rw [List.foldl_append]; rfl
theorem delL_srt {l : List (ByteArray × ByteArray)} (h : Srt l) (ks : List (ByteArray × ByteArray)) : Srt (delL ks l) := by rw [delL_filter]; exact h.sublist List.filter_sublist
theorem take_items {N : Nat} {k : ByteArray} {t t' : Tr ByteArray} (hs : Srt (items t)) (hB : Bal t) (h : (seek k t = .nil ∧ t' = t) ∨ (seek k t ≠ .nil ∧ TakeR N k t t')) : items t' = del k (items t) ∧ Bal t' ∧ sz t' ≤ sz t := by
 rcases h with ⟨h1, rfl⟩ | ⟨_, h2⟩
 · exact ⟨(del_none (seek_none hs h1)).symm, hB, Nat.le_refl _⟩
 · refine ⟨h2.items hs, (h2.bal hB).1, ?_⟩
   rw [← sz_items, ← sz_items, h2.items hs]
   exact List.length_filter_le _ _
def RmI (tr : Tr ByteArray) (H : List (Nat × Obj)) (c1 c2 : Nat) (w : World) (pre : List (ByteArray × ByteArray)) (W : World) : Prop :=
 (∃ t' : Tr ByteArray, Boxed W c1 27 (.pointer (pa t')) ∧ AtS W t' ∧ Bal t' ∧ items t' = delL pre (items tr) ∧ sz t' ≤ sz tr ∧ (pre = [] → t' = tr)) ∧ Boxed W c2 3 (.int .i64 (pre.length : Int)) ∧ Facts H W ∧ Below w.heap.size w W
theorem rmI_own {tr : Tr ByteArray} {H : List (Nat × Obj)} {c1 c2 : Nat} {w : World} {M : Nat} (hH : ∀ p ∈ H, p.1 < M) (h1 : c1 < M) (h2 : c2 < M) (hw : w.heap.size ≤ M) : OwnFrom M (RmI tr H c1 c2 w) := by
 rintro pre A A' row ⟨⟨t', g1, g2, g3, g4, g5, g6⟩, g7, g8, g9⟩ hg hr
 exact ⟨⟨t', own_block (β := Unit) h1 () A A' row g1 hg hr, ats_own g2 hg (fun r e => (hr r e).2), g3, g4, g5, g6⟩, own_block (β := Unit) h2 () A A' row g7 hg hr, facts_own (β := Unit) H M hH () A A' row g8 hg hr, ownFrom_below (β := Unit) (Nat.le_refl _) hw () A A' row g9 hg hr⟩
def RemOut (tr : Tr ByteArray) (x : ByteArray) (w : World) (e : Ending) (w' : World) : Prop :=
 if x.size ≤ 256 ∧ (items tr).all goodT = true then ∃ t' : Tr ByteArray, e = .returned (.tuple #[.agg #[.pointer (pa t')], .int .i64 ((tagsL x tr).length : Int), .int .i64 0]) ∧ AtS w' t' ∧ Bal t' ∧ items t' = delL (tagsL x tr) (items tr) ∧ (tagsL x tr = [] → t' = tr) ∧ Below w.heap.size w w'
 else e = .returned (.tuple #[.agg #[.pointer none], .int .i64 0, .int .i64 2]) ∧ Below w.heap.size w w'
set_option maxRecDepth 100000 in
set_option maxHeartbeats 8000000 in
theorem ts_Remove (tr : Tr ByteArray) (x : ByteArray) (w : World) (h : AtS w tr) (hB : Bal tr) (hSr : Srt (items tr)) (hz : sz tr ≤ 100000) (hk : ∀ p ∈ items tr, p.1.size ≤ 70368744177663) (hG : Glob w) :
 Calls Tryz.prog 23 #[.agg #[.pointer (pa tr)], .string x] w (RemOut tr x w) := by
 have O1 : Hid (∀ e w', x.size ≤ 256 → (items tr).all goodT = true → ∀ t' : Tr ByteArray, e = .returned (.tuple #[.agg #[.pointer (pa t')], .int .i64 ((tagsL x tr).length : Int), .int .i64 0]) → AtS w' t' → Bal t' → items t' = delL (tagsL x tr) (items tr) → (tagsL x tr = [] → t' = tr) → Below w.heap.size w w' → RemOut tr x w e w') := Lib.hid (fun e w' h1 h2 t' a b c d f g => by unfold RemOut; rw [if_pos ⟨h1, h2⟩]; exact ⟨t', a, b, c, d, f, g⟩)
 have O2 : Hid (∀ e w', (¬ x.size ≤ 256 ∨ (items tr).all goodT = false) → e = .returned (.tuple #[.agg #[.pointer none], .int .i64 0, .int .i64 2]) → Below w.heap.size w w' → RemOut tr x w e w') := Lib.hid (fun e w' h1 a b => by unfold RemOut; rw [if_neg (by rintro ⟨p, q⟩; rcases h1 with h1 | h1; exact h1 p; rw [q] at h1; cases h1)]; exact ⟨a, b⟩)
 have HT := Lib.hid h
 have HG := Lib.hid hG
 have HK := Lib.hid hk
 have HBal := Lib.hid hB
 have HSr := Lib.hid hSr
 obtain ⟨g, hg⟩ : ∃ g, (items tr).all goodT = g := ⟨_, rfl⟩
 rw [hg] at O1 O2
 have GG := Lib.hid hg
 clear h hk hG hg hB hSr
 obtain ⟨z, hz0⟩ : ∃ z, w.heap.size = z := ⟨_, rfl⟩
 refine (callsIn_wide (n := 6)).1 ?_
 refine callsIn_of_wp_marks Tryz.func23 rfl trivial ?_ rfl
 simp only [Tryz.ntmps23, List.size_toArray, List.length_cons, List.length_nil, Nat.reduceAdd, Nat.reduceSub, Array.replicate_succ, Array.replicate_zero, List.push_toArray, List.append_toArray, List.nil_append, List.cons_append]
 refine wpIn_wide.2 ?_
 rw [hz0] at O1 O2
 have HC : Hid (Chain [w] w) := Lib.hid (Chain.one w)
 go_upto_region 1 with (fail)
 obtain ⟨y, hy⟩ : ∃ c, w.heap.size = c := ⟨_, rfl⟩
 try rw [hy]
 obtain ⟨w1, hw1⟩ : ∃ X, allocs w [.cells #[.pointer (pa tr)] 27, .cells #[.pointer none] 27] = X := ⟨_, rfl⟩
 rw [show (w.alloc (.cells #[.pointer (pa tr)] 27)).alloc (.cells #[.pointer none] 27) = w1 from hw1]
 have hb : Below w.heap.size w w1 := by rw [← hw1]; exact allocs_below _ _
 have HM : Hid (w1.heap[y]? = some (.cells #[.pointer (pa tr)] 27 (0, 0))) := Lib.hid (by have := allocs_get [.cells #[.pointer (pa tr)] 27, .cells #[.pointer none] 27] w 0 _ rfl; rw [hw1, hy] at this; exact this)
 have HR : Hid (w1.heap[y + 1]? = some (.cells #[.pointer none] 27 (0, 0))) := Lib.hid (by have := allocs_get [.cells #[.pointer (pa tr)] 27, .cells #[.pointer none] 27] w 1 _ rfl; rw [hw1, hy] at this; exact this)
 have Sy : Hid (w.heap.size = y) := Lib.hid hy
 replace HC := Lib.hid (HC.out.push hb)
 clear hb hw1 hy
 obtain rfl : y = z := by rw [← Sy.out, hz0]
 go_wp2_with fail
 refine (ts_fits x _).mono ?_
 rintro e _ ⟨rfl, rfl⟩
 by_cases hf : x.size ≤ 256
 case neg =>
  rw [decide_eq_false hf]
  have NOT : Hid (¬ x.size ≤ 256 ∨ g = false) := Lib.hid (.inl hf)
  have RF := Lib.hid (boxStays HR.out (HC.out.to w1 (by simp)))
  have BF := Lib.hid (HC.out.to w (by simp))
  have c1 := cell_of_one RF.out
  have d1 := frozen_of_row _ (y + 1) 0 _ _ RF.out
  go_wp2_with fail
  have RS := Lib.hid (heap_setCell_same w1 (y + 1) 0 _ _ (.pointer none) RF.out)
  have BS : Hid (Below w.heap.size w (w1.setCell ⟨y + 1, 0, none⟩ (.pointer none))) := Lib.hid (BF.out.setCell (p := ⟨y + 1, 0, none⟩) (by have := Sy.out; simp; omega) _)
  try rw [Exit.noGoto_ret]
  try show LeavesInM _ _ _ _ _ _ (marks []) _ _
  refine leaves_marks [] _ (by simp) (fun p hp => by cases hp) ?_
  intro W' e1 e2 e3 e4 e5
  have k1 := cell_of_one ((e5 (y + 1) (by simp)).trans RS.out)
  have bW : Below w.heap.size w W' := ⟨e1.trans BS.out.os, e2.trans BS.out.tape, e3.trans BS.out.output, by rw [e4]; exact BS.out.size, fun k hk => (e5 k (by simp)).trans (BS.out.block k hk)⟩
  refine ⟨.tuple #[.agg #[.pointer none], .int .i64 0, .int .i64 2], by simp [results, Tryz.results23, go_sem, k1], ?_⟩
  exact O2.out _ _ NOT.out rfl (hz0 ▸ bW)
 case pos =>
 rw [decide_eq_true hf]
 have HF := Lib.hid hf
 clear hf
 have kM0 := cell_of_one HM.out
 go_wp2_with fail
 refine (ts_May tr _ (HT.out.below (HC.out.to w (by simp)) rfl) hz HK.out).mono ?_
 rintro e w2 ⟨rfl, hb⟩
 clear kM0
 replace HC := Lib.hid (HC.out.push hb)
 clear hb
 rw [GG.out]
 cases g
 case false =>
  have NOT : Hid (¬ x.size ≤ 256 ∨ false = false) := Lib.hid (.inr rfl)
  have RF := Lib.hid (boxStays HR.out (HC.out.to w1 (by simp)))
  have BF := Lib.hid (HC.out.to w (by simp))
  have c1 := cell_of_one RF.out
  have d1 := frozen_of_row _ (y + 1) 0 _ _ RF.out
  go_wp2_with fail
  have RS := Lib.hid (heap_setCell_same w2 (y + 1) 0 _ _ (.pointer none) RF.out)
  have BS : Hid (Below w.heap.size w (w2.setCell ⟨y + 1, 0, none⟩ (.pointer none))) := Lib.hid (BF.out.setCell (p := ⟨y + 1, 0, none⟩) (by have := Sy.out; simp; omega) _)
  try rw [Exit.noGoto_ret]
  try show LeavesInM _ _ _ _ _ _ (marks []) _ _
  refine leaves_marks [] _ (by simp) (fun p hp => by cases hp) ?_
  intro W' e1 e2 e3 e4 e5
  have k1 := cell_of_one ((e5 (y + 1) (by simp)).trans RS.out)
  have bW : Below w.heap.size w W' := ⟨e1.trans BS.out.os, e2.trans BS.out.tape, e3.trans BS.out.output, by rw [e4]; exact BS.out.size, fun k hk => (e5 k (by simp)).trans (BS.out.block k hk)⟩
  refine ⟨.tuple #[.agg #[.pointer none], .int .i64 0, .int .i64 2], by simp [results, Tryz.results23, go_sem, k1], ?_⟩
  exact O2.out _ _ NOT.out rfl (hz0 ▸ bW)
 case true =>
 have R2Z : Hid (y + 1 < w2.heap.size) := Lib.hid (Array.getElem?_eq_some_iff.1 (boxStays HR.out (HC.out.to w1 (by simp)))).1
 have kM0 := cell_of_one (boxStays HM.out (HC.out.to w1 (by simp)))
 go_upto_region 4 with (fail)
 clear kM0
 obtain ⟨o, ho⟩ : ∃ c, w2.heap.size = c := ⟨_, rfl⟩
 try rw [ho]
 obtain ⟨w3, hw3⟩ : ∃ X, allocs w2 [.cells #[.pointer (pa tr)] 27, .cells #[.int .i64 0] 3] = X := ⟨_, rfl⟩
 rw [show (w2.alloc (.cells #[.pointer (pa tr)] 27)).alloc (.cells #[.int .i64 0] 3) = w3 from hw3]
 have hb : Below w2.heap.size w2 w3 := by rw [← hw3]; exact allocs_below _ _
 have HO : Hid (w3.heap[o]? = some (.cells #[.pointer (pa tr)] 27 (0, 0))) := Lib.hid (by have := allocs_get [.cells #[.pointer (pa tr)] 27, .cells #[.int .i64 0] 3] w2 0 _ rfl; rw [hw3, ho] at this; exact this)
 have HN : Hid (w3.heap[o + 1]? = some (.cells #[.int .i64 0] 3 (0, 0))) := Lib.hid (by have := allocs_get [.cells #[.pointer (pa tr)] 27, .cells #[.int .i64 0] 3] w2 1 _ rfl; rw [hw3, ho] at this; exact this)
 have So : Hid (w2.heap.size = o) := Lib.hid ho
 replace HC := Lib.hid (HC.out.push hb)
 clear hb hw3 ho
 have kM0 := cell_of_one (boxStays HM.out (HC.out.to w1 (by simp)))
 go_wp2_with fail
 refine (ts_tags tr x _).mono ?_
 rintro e w5 ⟨tb, mb, rfl, hmb, htb, hbm, hbt, hb⟩
 clear kM0
 replace HC := Lib.hid (HC.out.push hb)
 clear hb
 have hoy : y + 1 < o := by have := R2Z.out; have := So.out; omega
 have BW5 := Lib.hid (HC.out.to w (by simp))
 have hO5 := boxStays HO.out (HC.out.to w3 (by simp))
 have hN5 := boxStays HN.out (HC.out.to w3 (by simp))
 have hR5 := boxStays HR.out (HC.out.to w1 (by simp))
 have hT5 := HT.out.below (HC.out.to w (by simp)) rfl
 have hG5 := HG.out.below (HC.out.to w (by simp))
 have ho5 : o + 1 < w5.heap.size := (Array.getElem?_eq_some_iff.1 hN5).1
 have hbl : ∀ b ∈ blocks tr, b < y := fun b hb => by have := HT.out.lt b hb; omega
 have hSlt : ∀ k, k ∈ blocks tr → k < w5.heap.size := fun k hk => hT5.lt k hk
 obtain ⟨H, hH⟩ : ∃ H : List (Nat × Obj), [(y + 1, .cells #[.pointer none] 27 (0, 0))] = H := ⟨_, rfl⟩
 have hHz : ∀ p ∈ H, p.1 = y + 1 := by intro p hp; rw [← hH] at hp; simp only [List.mem_cons, List.not_mem_nil, or_false] at hp; rw [hp]
 have HH : Hid ((y + 1, Obj.cells #[.pointer none] 27 (0, 0)) ∈ H) := Lib.hid (by rw [← hH]; simp)
 have HIter := ts_tags1 5 (by omega) tr x tb mb w5 (fun k => k ∈ blocks tr) (fun _ => False) (fun _ h => h.elim) hbt hbm hT5 (by have := HF.out; omega) hG5 hSlt (fun b hb => hb)
 unfold GoesTags at HIter
 obtain ⟨L, hL⟩ : ∃ L, tagsL x tr = L := ⟨_, rfl⟩
 rw [hL] at HIter O1
 have hLn : L.length ≤ 100000 := by
  rw [← hL]
  have h1 : (tagsL x tr).length ≤ (fromL (frontB x) tr).length := (List.takeWhile_sublist _).length_le
  have h2 : (fromL (frontB x) tr).length ≤ (items tr).length := by rw [fromL_filter _ _ HSr.out]; exact List.length_filter_le _ _
  rw [sz_items] at h2
  omega
 have r5 : RmI tr H o (o + 1) w [] w5 := ⟨⟨tr, hO5, hT5, HBal.out, rfl, Nat.le_refl _, fun _ => rfl⟩, hN5, fun p hp => by rw [← hH] at hp; simp only [List.mem_cons, List.not_mem_nil, or_false] at hp; rw [hp]; exact hR5, BW5.out⟩
 have hw5 : w.heap.size ≤ w5.heap.size := BW5.out.size
 have OWN : OwnFrom w5.heap.size (RmI tr H o (o + 1) w) := rmI_own (fun p hp => by have := hHz p hp; omega) (by omega) (by omega) hw5
 clear hO5 hN5 hR5 hT5 hG5 hbm hbt hmb htb HC hH
 go_wp2_with fail
 refine (wpIn_wide (n := 6)).1 ?_
 refine range_law2 (n := 6) rfl (enters_of Tryz.func109 (by kernel_rfl) rfl) HIter (by omega) KeepE.trans (fun W o o' _ _ => KeepE.put W _ o' (by omega) (fun k hk => by have := hSlt k hk; omega)) (fun x => rfl) (fun pre => (by rintro _ _ _ _ h _ _; exact h)) ?_ (RmI tr H o (o + 1) w) (fun _ _ _ => False) (fun xs V => xs = L ∧ RmI tr H o (o + 1) w xs V) OWN ?_ ?_ ?_ r5
  (fun pre q a' V => RmI tr H o (o + 1) w pre V ∧ pre ++ [q] <+: L ∧ a' = { tmps := #[.agg #[.pointer (pa tr)], .string x, .pointer (some ⟨y, 0, none⟩), undef, .pointer (some ⟨y + 1, 0, none⟩), .int .i64 0, .int .i64 0, .pointer (some ⟨o, 0, none⟩), .pointer (some ⟨o + 1, 0, none⟩), .string q.1, .string x, .bool true, .bool false, .bool false, .agg #[.pointer (pa tr)], .bool true, .bool false, .bool false, undef, .agg #[.pointer (pa tr)], .agg #[.pointer (pa tr)], .string x, .func (.func 109) #[] #[.pointer (some ⟨tb, 0, none⟩), .pointer (some ⟨mb, 0, none⟩)], .string q.1, undef, undef, undef, undef, undef, undef, undef], defers := [] }) ?_ ?assign ?body ?done ?stop
 · rintro W1 _ xs A B ⟨_, hb, _⟩ k o hk ho _; exact (hb.block k hk).trans ho
 · rintro c xs A A' row h hg hr; exact h
 · rintro xs A A' row ⟨h1, h2⟩ hg hr
   exact ⟨h1, OWN xs A A' row h2 hg hr⟩
 · rintro W1 _ xs A B ⟨⟨t', g1, g2, g3, g4, g5, g6⟩, g7, g8, g9⟩ ⟨h1, hb, hc⟩
   exact ⟨h1, ⟨t', hc _ _ _ _ g1, g2.keep fun b o ho hm => (by
    obtain ⟨cs, h1⟩ := ats_nds g2 b hm
    rw [ho] at h1
    obtain rfl := Option.some.inj h1
    exact hc _ _ _ _ ho), g3, g4, g5, g6⟩, hc _ _ _ _ g7, fun p hp => (hb.block p.1 (by have := hHz p hp; omega)).trans (g8 p hp), g9.trans (hb.mono (by omega))⟩
 · rintro q a' pre A A' row ⟨h1, h2, h3⟩ hg hr
   exact ⟨OWN pre A A' row h1 hg hr, h2, h3⟩
 case assign =>
  intro l pre q W K hi hx hsz hK
  have HI := Lib.hid hi
  clear hi
  simp only [encKey, List.zip_toArray, List.zip_cons_cons, List.zip_nil_right, List.foldl_toArray, List.foldl_cons, List.foldl_nil]
  gi_wp2
  exact hK _ _ ⟨Nat.le_refl _, fun _ _ _ h _ => h⟩ (KeepE.refl _) hsz ⟨HI.out, hx, rfl⟩
 case body =>
  rintro l pre ⟨k, v⟩ a' V ⟨⟨⟨t', h1, h2, h3, h4, h5, h6⟩, h7, h8, h9⟩, hp, rfl⟩ hsz
  have hpl : pre.length + 1 ≤ L.length := by have := hp.length_le; simpa using this
  have O9 : Hid (Boxed V o 27 (.pointer (pa t'))) := Lib.hid h1
  have N9 : Hid (Boxed V (o + 1) 3 (.int .i64 (pre.length : Int))) := Lib.hid h7
  have A9 := Lib.hid h2
  have I9 := Lib.hid h4
  have Bl9 := Lib.hid h3
  have F9 := Lib.hid h8
  have B9 := Lib.hid h9
  have hSt : Srt (items t') := by rw [h4]; exact delL_srt HSr.out _
  have St9 := Lib.hid hSt
  have hSV : ∀ k', k' ∈ blocks tr → k' < V.heap.size := fun k' hk' => Nat.lt_of_lt_of_le (hSlt k' hk') hsz
  have hov : o + 1 < V.heap.size := by omega
  obtain ⟨pn, hpn⟩ : ∃ n, pre.length = n := ⟨_, rfl⟩
  have PN := Lib.hid hpn
  rw [hpn] at N9 hpl
  have k0 := cell_of_one O9.out
  clear HIter r5 OWN h1 h2 h3 h4 h6 h7 h8 h9 hp hpn
  gi_wp2
  refine ⟨trivial, ?_⟩
  refine (CallsIn.inRound l (callsIn_wide.2 (pm_MTakeS t' k y V (by omega) A9.out (by omega)))).mono ?_
  rintro e V2 ⟨t2, hT2, rfl, hA2, hb⟩
  obtain ⟨g1, g2, g3⟩ := take_items St9.out Bl9.out hT2
  have BV : Hid (Below V.heap.size V V2) := Lib.hid (show Below V.heap.size V V2 from hb)
  have o2 := boxStays O9.out hb
  have n2 := boxStays N9.out hb
  have c7 := cell_of_one o2
  have f7 := frozen_of_row _ o 0 _ _ o2
  have c8 := cell_of_one n2
  have f8 := frozen_of_row _ (o + 1) 0 _ _ n2
  have hwr : IntKind.i64.wrap ((pn : Int) + 1) = (pn : Int) + 1 := by rw [IntKind.wrap_i64]; omega
  have u1 : Boxed (V2.setCell ⟨o, 0, none⟩ (.pointer (pa t2))) o 27 (.pointer (pa t2)) := Boxed.set _ o2
  have u2 : Boxed (V2.setCell ⟨o, 0, none⟩ (.pointer (pa t2))) (o + 1) 3 (.int .i64 (pn : Int)) := (Below.heap_setCell _ _ _ _ (by simp)).trans n2
  have u3 : Boxed ((V2.setCell ⟨o, 0, none⟩ (.pointer (pa t2))).setCell ⟨o + 1, 0, none⟩ (.int .i64 ((pn : Int) + 1))) o 27 (.pointer (pa t2)) := (Below.heap_setCell _ _ _ _ (by simp)).trans u1
  have u4 : Boxed ((V2.setCell ⟨o, 0, none⟩ (.pointer (pa t2))).setCell ⟨o + 1, 0, none⟩ (.int .i64 ((pn : Int) + 1))) (o + 1) 3 (.int .i64 ((pn : Int) + 1)) := Boxed.set _ u2
  have FIN := Lib.hid (show KeepsFrom w5.heap.size V ((V2.setCell ⟨o, 0, none⟩ (.pointer (pa t2))).setCell ⟨o + 1, 0, none⟩ (.int .i64 ((pn : Int) + 1))) ∧ KeepE (w5.heap.size + 2) (fun k => k ∈ blocks tr) (fun _ => False) V ((V2.setCell ⟨o, 0, none⟩ (.pointer (pa t2))).setCell ⟨o + 1, 0, none⟩ (.int .i64 ((pn : Int) + 1))) ∧ RmI tr H o (o + 1) w (pre ++ [(k, v)]) ((V2.setCell ⟨o, 0, none⟩ (.pointer (pa t2))).setCell ⟨o + 1, 0, none⟩ (.int .i64 ((pn : Int) + 1))) from
   ⟨⟨by simpa [World.setCell] using BV.out.size, fun k' o2 hk' ho2 hc => (Below.heap_setCell _ _ _ _ (by simp; omega)).trans ((Below.heap_setCell _ _ _ _ (by simp; omega)).trans ((BV.out.block k' (Array.getElem?_eq_some_iff.1 ho2).1).trans ho2))⟩,
    ((KeepE.below BV.out hSV).trans (KeepE.setCell V2 o 0 _ (by omega) (fun h => by have := hbl _ h; omega))).trans (KeepE.setCell _ (o + 1) 0 _ (by omega) (fun h => by have := hbl _ h; omega)),
    ⟨t2, u3, (hA2.setBox o2 (by decide) 0 _).setBox u2 (by decide) 0 _, g2, by rw [g1, I9.out, delL_snoc], by omega, fun h => absurd h (by simp)⟩, by rw [List.length_append, List.length_singleton, PN.out]; exact u4,
    ((F9.out.below BV.out).setCell (fun p hp => by have := hHz p hp; omega) _).setCell (fun p hp => by have := hHz p hp; omega) _, ((B9.out.trans (BV.out.mono B9.out.size)).setCell (p := ⟨o, 0, none⟩) (by simp; omega) _).setCell (p := ⟨o + 1, 0, none⟩) (by simp; omega) _⟩)
  clear hb o2 n2 u1 u2 u3 u4 hA2 hT2 g1 g2 g3 k0
  gi_wp2
  exact FIN.out
 case done =>
  rintro D xs V hD ⟨rfl, ⟨t', h1, h2, h3, h4, h5, h6⟩, h7, h8, h9⟩ hK
  have HKD := Lib.hid hK
  have O9 : Hid (Boxed V o 27 (.pointer (pa t'))) := Lib.hid h1
  have N9 : Hid (Boxed V (o + 1) 3 (.int .i64 (xs.length : Int))) := Lib.hid h7
  have A9 := Lib.hid h2
  have I9 := Lib.hid h4
  have L9 := Lib.hid h6
  have Bl9 := Lib.hid h3
  have R9 : Hid (Boxed V (y + 1) 27 (.pointer none)) := Lib.hid (h8 _ HH.out)
  have B9 := Lib.hid h9
  obtain ⟨pn, hpn⟩ : ∃ n, xs.length = n := ⟨_, rfl⟩
  have PN := Lib.hid hpn
  rw [hpn] at N9 O1
  clear HIter r5 OWN h1 h2 h3 h4 h6 h7 h8 h9 hK hpn hL
  simp only [Exit.inBlock]
  go_upto_region 8 with (fail)
  have YP : Hid (V.drew.heap[y + 1]? = some (.cells #[.pointer none] 27 (0, 0))) := R9
  refine wp_region_noPanic ?_
  refine wp_region_held_drew (S := fun w' => KeepX (fun k _ => k = y + 1) V w') (by kernel_rfl) (KeepX.refl _).drew (fun hS => ?_)
  refine tk (i := 0) (oi := ⟨some 29, _, _, _, _, _⟩) (v := ?_) rfl (Or.inl ⟨by rfl, ?_⟩) hS ?_
  rotate_left 1
  · intro w' hB; have k0 := cell_of_one (hB.row O9.out (by omega)); have k1 := cell_of_one (hB.row N9.out (by omega)); (go_simp <;> with_reducible rfl)
  try simp only [Act.put, zA, zB, zC]
  refine tk (i := 1) (oi := ⟨some 30, _, _, _, _, _⟩) (v := ?_) rfl (Or.inl ⟨by rfl, ?_⟩) hS ?_
  rotate_left 1
  · intro w' hB; have k0 := cell_of_one (hB.row O9.out (by omega)); have k1 := cell_of_one (hB.row N9.out (by omega)); (go_simp <;> with_reducible rfl)
  try simp only [Act.put, zA, zB, zC]
  refine wpAnyH_ready (rs := [2]) (by kernel_rfl) (by simp) (AllReadyH.cons (o := ⟨none, _, _, _, _, _⟩) rfl (fun K hK => ?_) AllReadyH.nil)
  have y1 := cell_of_one YP.out
  have f1 := frozen_of_row _ (y + 1) 0 _ _ YP.out
  replace hS := KeepX.setRow hS YP.out rfl 0 (Value.pointer (pa t'))
  replace YP := Lib.hid (Boxed.set (t := 27) (.pointer (pa t')) YP.out)
  go_simp
  refine hK.out _ _ hS (fun _ => ?_)
  clear hK K y1 f1
  try simp only [Act.put, zA, zB, zC]
  refine tk (i := 3) (oi := ⟨some 5, _, _, _, _, _⟩) (v := ?_) rfl (Or.inl ⟨by rfl, ?_⟩) hS ?_
  rotate_left 1
  · intro w' hB; have k0 := cell_of_one (hB.row O9.out (by omega)); have k1 := cell_of_one (hB.row N9.out (by omega)); (go_simp <;> with_reducible rfl)
  try simp only [Act.put, zA, zB, zC]
  refine tk (i := 4) (oi := ⟨some 6, _, _, _, _, _⟩) (v := ?_) rfl (Or.inl ⟨by rfl, ?_⟩) hS ?_
  rotate_left 1
  · intro w' hB; have k0 := cell_of_one (hB.row O9.out (by omega)); have k1 := cell_of_one (hB.row N9.out (by omega)); (go_simp <;> with_reducible rfl)
  try simp only [Act.put, zA, zB, zC]
  refine wpAnyH_done (by kernel_rfl) (NoPanic.normal ?_) _
  have hy1 : y + 1 ≤ V.heap.size := Nat.le_of_lt (Array.getElem?_eq_some_iff.1 R9.out).1
  have YQ : Hid (Boxed (V.setCell ⟨y + 1, 0, none⟩ (.pointer (pa t'))).drew (y + 1) 27 (.pointer (pa t'))) := YP
  have A2 : Hid (AtS (V.setCell ⟨y + 1, 0, none⟩ (.pointer (pa t'))).drew t') := Lib.hid (A9.out.keepZ hS R9.out (by decide))
  have B2 : Hid (Below y w (V.setCell ⟨y + 1, 0, none⟩ (.pointer (pa t'))).drew) := Lib.hid ((hz0 ▸ B9.out).trans ((hS.toBelowZ hy1).mono (by omega)))
  have HD2 : Hid ((V.setCell ⟨y + 1, 0, none⟩ (.pointer (pa t'))).drew.heap[D]? = some (.deferred (some []))) := Lib.hid (hS.rest D _ HKD.out (fun c t fr e => by cases e))
  generalize (V.setCell ⟨y + 1, 0, none⟩ (.pointer (pa t'))).drew = V2 at *
  clear hS
  go_wp2_with fail
  try rw [Exit.noGoto_ret]
  try show LeavesInM _ _ _ _ _ _ (marks [D]) _ _
  refine leaves_marks [D] _ (by simp) (fun p hp => ?_) ?_
  · obtain rfl : p = (D, .deferred (some [])) := by simpa [markF] using hp
    exact HD2.out
  · intro W' e1 e2 e3 e4 e5
    have k1 := cell_of_one ((e5 (y + 1) (by simp; omega)).trans YQ.out)
    have bW : Below y w W' := ⟨e1.trans B2.out.os, e2.trans B2.out.tape, e3.trans B2.out.output, by rw [e4]; exact B2.out.size, fun k hk => (e5 k (by simp; omega)).trans (B2.out.block k hk)⟩
    refine ⟨.tuple #[.agg #[.pointer (pa t')], .int .i64 (pn : Int), .int .i64 0], by simp [results, Tryz.results23, go_sem, k1], ?_⟩
    refine O1.out _ _ HF.out (by simp) t' rfl (A2.out.keep fun b o ho hm => (e5 b (by
     simp
     rintro rfl
     obtain ⟨cs, h1⟩ := ats_nds A2.out _ hm
     rw [HD2.out] at h1
     cases h1)).trans ho) Bl9.out I9.out L9.out bW
 case stop =>
  rintro D c pre V hD hSp h hK
  exact absurd h id
end Go.Proofs.YtjlliohjeiclaaaGreatDoor
