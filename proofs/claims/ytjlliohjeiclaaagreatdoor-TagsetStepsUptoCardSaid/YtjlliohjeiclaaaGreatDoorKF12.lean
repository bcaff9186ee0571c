/- Words, contracts and walks that the proof stands on (TgP RgP TgL TgK TgR TgO TgI SmP). -/
import Derived.Deep.DeepMust
import Derived.Lib.ReplaceLaws
import Derived.MapKept
import Derived.Maps.Own
import Derived.OwnWalkIn
import Derived.RangeFuncRecord
import Derived.Scope
import Derived.Shelf.Strings.Prefix
import Derived.Shelf.Strings.Replace
import Derived.Test.YtjlliohjeiclaaaGreatDoorKF1
import Derived.Test.YtjlliohjeiclaaaGreatDoorKF11
import Derived.Test.YtjlliohjeiclaaaGreatDoorKF6
import Derived.WalkMore
namespace Go.Proofs.YtjlliohjeiclaaaGreatDoor
open Go.RowKit St Pm
open Go.Op (bytesLess)
def escT : List UInt8 → List UInt8
 | [] => []
 | b :: l => if b = 0 then 0 :: 1 :: escT l else b :: escT l
def frontB (t : ByteArray) : ByteArray := ⟨(escT t.data.toList ++ [0, 0]).toArray⟩
def tagK (e : Ev) : ByteArray := ⟨(escT e.2.data.toList ++ 0 :: 0 :: e.1.st.key).toArray⟩
theorem tag_front (e : Ev) : frontB e.2 ++ keyB e.1.st = tagK e := by
 apply key_ext
 simp [frontB, keyB, tagK]
theorem esc_head (t r : List UInt8) : ∃ c m, escT t ++ 0 :: 0 :: r = c :: m := by cases escT t <;> simp
def decA (acc : List UInt8) : List UInt8 → Option (List UInt8 × List UInt8)
 | [] => none
 | [_] => none
 | a :: b :: l => if a ≠ 0 then decA (acc ++ [a]) (b :: l) else if b = 1 then decA (acc ++ [0]) l else if b = 0 then some (acc, l) else none
termination_by l => l.length
theorem decA_esc : ∀ (t r acc : List UInt8), decA acc (escT t ++ 0 :: 0 :: r) = some (acc ++ t, r)
 | [], r, acc => by simp [escT, decA]
 | b :: t, r, acc => by
  have ih := decA_esc t r
  by_cases h : b = 0
  · subst h
    simp only [escT, if_true, List.cons_append]
    rw [decA]
    simp [ih]
  · obtain ⟨c, m, hc⟩ := esc_head t r
    rw [escT, if_neg h, List.cons_append, hc, decA, if_pos h, ← hc, ih]
    simp
theorem decA_inv : ∀ (n : Nat) (l acc t r : List UInt8), l.length ≤ n → decA acc l = some (t, r) → ∃ t', t = acc ++ t' ∧ l = escT t' ++ 0 :: 0 :: r
 | 0, [], acc, t, r, _, h => by rw [decA] at h; cases h
 | 0, _ :: _, _, _, _, hl, _ => by simp at hl
 | n + 1, [], acc, t, r, _, h => by rw [decA] at h; cases h
 | n + 1, [_], acc, t, r, _, h => by rw [decA] at h; cases h
 | n + 1, a :: b :: l, acc, t, r, hl, h => by
  rw [decA] at h
  simp only [List.length_cons] at hl
  by_cases ha : a = 0
  · subst ha
    rw [if_neg (by simp)] at h
    by_cases hb : b = 1
    · subst hb
      rw [if_pos rfl] at h
      obtain ⟨t', rfl, rfl⟩ := decA_inv n l _ t r (by omega) h
      exact ⟨0 :: t', by simp, by simp [escT]⟩
    · rw [if_neg hb] at h
      by_cases hb0 : b = 0
      · subst hb0
        rw [if_pos rfl] at h
        cases h
        exact ⟨[], by simp, by simp [escT]⟩
      · rw [if_neg hb0] at h; cases h
  · rw [if_pos ha] at h
    obtain ⟨t', rfl, h2⟩ := decA_inv n (b :: l) _ t r (by simp; omega) h
    exact ⟨a :: t', by simp, by rw [h2, escT, if_neg ha]; rfl⟩
theorem ofK_some {k : ByteArray} {s : Sv} (h : ofK k = some s) : s.ok = true ∧ k = keyB s.st := by
 unfold ofK at h
 by_cases hk : okKey k.data.toList = true
 · rw [if_pos hk] at h
   obtain ⟨s', hs, hsk⟩ := okKey_iff.1 hk
   rw [← hsk, parse_key hs] at h
   obtain rfl := Option.some.inj h
   refine ⟨(Stp.ok_sv hs).1, ?_⟩
   rw [(Stp.ok_sv hs).2]
   apply key_ext
   simp [keyB, hsk]
 · rw [if_neg hk] at h; cases h
theorem ofK_ok {s : Sv} (h : s.ok = true) : ofK (keyB s.st) = some s := by
 rw [ofK_key (Sv.ok_st h).1, (Sv.ok_st h).2]
def ofT (k : ByteArray) : Option Ev := match decA [] k.data.toList with
 | none => none
 | some (t, r) => match ofK ⟨r.toArray⟩ with
  | none => none
  | some s => if t.length ≤ 256 then some (s, ⟨t.toArray⟩) else none
theorem ofT_tag {e : Ev} (h : okV e = true) : ofT (tagK e) = some e := by
 obtain ⟨h1, h2⟩ := okV_iff.1 h
 unfold ofT tagK
 simp only [List.toList_toArray]
 rw [decA_esc]
 have h3 : ofK ⟨e.1.st.key.toArray⟩ = some e.1 := ofK_ok h1
 simp only [List.nil_append, h3]
 rw [if_pos (by rw [dlen]; exact h2)]
theorem ofT_some {k : ByteArray} {e : Ev} (h : ofT k = some e) : okV e = true ∧ k = tagK e := by
 unfold ofT at h
 cases hd : decA [] k.data.toList with
 | none => rw [hd] at h; cases h
 | some q =>
  obtain ⟨t, r⟩ := q
  rw [hd] at h
  simp only at h
  cases ho : ofK ⟨r.toArray⟩ with
  | none => rw [ho] at h; cases h
  | some s =>
   rw [ho] at h
   simp only at h
   by_cases hl : t.length ≤ 256
   · rw [if_pos hl] at h
     obtain rfl := Option.some.inj h
     obtain ⟨t', e1, e2⟩ := decA_inv _ _ _ _ _ (Nat.le_refl _) hd
     obtain ⟨h1, h2⟩ := ofK_some ho
     rw [List.nil_append] at e1
     subst e1
     refine ⟨okV_iff.2 ⟨h1, by simpa [ByteArray.size] using hl⟩, key_ext ?_⟩
     rw [e2]
     have h3 : r = s.st.key := by have := congrArg (fun x : ByteArray => x.data.toList) h2; simpa [keyB] using this
     simp [tagK, h3]
   · rw [if_neg hl] at h; cases h
theorem bl_nil (l : List UInt8) : bytesLess l [] = false := by cases l <;> rfl
theorem u0_le (c : UInt8) : ¬ c < 0 := fun h => by rw [UInt8.lt_iff_toNat_lt] at h; simp at h
theorem u0_lt {c : UInt8} (h : c ≠ 0) : (0 : UInt8) < c := by
 rw [UInt8.lt_iff_toNat_lt]
 have : c.toNat ≠ 0 := fun e => h (by rw [← UInt8.toNat_inj]; exact e)
 simp; omega
theorem bl_esc : ∀ (x y a b : List UInt8), bytesLess (escT x ++ 0 :: 0 :: a) (escT y ++ 0 :: 0 :: b) = (bytesLess x y || (x == y && bytesLess a b))
 | [], [], a, b => by simp [escT, bytesLess]
 | [], d :: y, a, b => by
  by_cases h : d = 0
  · subst h; simp [escT, bytesLess]
  · have := u0_lt h
    simp [escT, h, bytesLess, this]
 | c :: x, [], a, b => by
  by_cases h : c = 0
  · subst h; simp [escT, bytesLess]
  · have h2 := u0_le c
    simp [escT, h, bytesLess, h2]
 | c :: x, d :: y, a, b => by
  have ih := bl_esc x y a b
  by_cases hc : c = 0
  · subst hc
    by_cases hd : d = 0
    · subst hd
      simp [escT, bytesLess, ih]
    · have := u0_lt hd
      simp [escT, hd, bytesLess, this]
  · by_cases hd : d = 0
    · subst hd
      have h2 := u0_le c
      have h3 : (c == 0) = false := by simpa using hc
      simp [escT, hc, bytesLess, h2, h3]
    · simp only [escT, if_neg hc, if_neg hd, List.cons_append, bytesLess, ih]
      by_cases e : c = d
      · subst e; simp
      · have : (c == d) = false := by simpa using e
        simp [this, e]
theorem tag_lt {a b : Ev} (ha : a.1.ok = true) (hb : b.1.ok = true) : klt (tagK a) (tagK b) = (klt a.2 b.2 || (decide (a.2 = b.2) && a.1.st.lt b.1.st)) := by
 unfold klt
 rw [← key_lt (Sv.ok_st ha).1 (Sv.ok_st hb).1, ByteArray.toList_eq, ByteArray.toList_eq, ByteArray.toList_eq, ByteArray.toList_eq]
 unfold tagK
 simp only [List.toList_toArray]
 rw [bl_esc]
 congr 2
 rw [Bool.eq_iff_iff]
 simp only [beq_iff_eq, decide_eq_true_eq]
 exact ⟨fun h => key_ext h, fun h => by rw [h]⟩
theorem tag_inj {a b : Ev} (ha : okV a = true) (hb : okV b = true) (h : tagK a = tagK b) : a = b := by
 have h1 := ofT_tag ha
 rw [h, ofT_tag hb] at h1
 exact (Option.some.inj h1).symm
theorem front_pre (t : ByteArray) (e : Ev) : (escT t.data.toList ++ [0, 0]).isPrefixOf (tagK e).data.toList = decide (e.2 = t) := by
 rw [Bool.eq_iff_iff, decide_eq_true_eq, List.isPrefixOf_iff_prefix]
 constructor
 · rintro ⟨r, hr⟩
   have h1 : decA [] (tagK e).data.toList = some (t.data.toList, r) := by
    rw [← hr, List.append_assoc]
    show decA [] (escT t.data.toList ++ 0 :: 0 :: r) = _
    rw [decA_esc]; rfl
   have h2 : decA [] (tagK e).data.toList = some (e.2.data.toList, e.1.st.key) := by
    unfold tagK
    simp only [List.toList_toArray]
    rw [decA_esc]; rfl
   rw [h2] at h1
   simp only [Option.some.injEq, Prod.mk.injEq] at h1
   exact key_ext h1.1
 · rintro rfl
   exact ⟨e.1.st.key, by simp [tagK]⟩
theorem esc_len : ∀ (l : List UInt8), (escT l).length ≤ 2 * l.length
 | [] => by simp [escT]
 | c :: l => by
  have ih := esc_len l
  by_cases h : c = 0
  · simp [escT, h]; omega
  · simp [escT, h]; omega
theorem index_zero (l : List UInt8) : Lib.index (0 :: l) [0] = 0 := by simp [Lib.index]
theorem index_skip {b : UInt8} (h : b ≠ 0) (l : List UInt8) : Lib.index (b :: l) [0] = if Lib.index l [0] == -1 then -1 else Lib.index l [0] + 1 := by
 have h1 : [(0 : UInt8)].isPrefixOf (b :: l) = false := by
  have : ((0 : UInt8) == b) = false := by simpa using fun e => h e.symm
  simp only [List.isPrefixOf, this, Bool.false_and]
 rw [Lib.index, h1]
 rfl
theorem repl_skip {b : UInt8} (h : b ≠ 0) : ∀ (k : Nat) (l : List UInt8), Lib.replaceK [0] [0, 1] k (b :: l) = b :: Lib.replaceK [0] [0, 1] k l
 | 0, l => rfl
 | k + 1, l => by
  have h1 := Lib.index_ge l [0]
  rw [Lib.replaceK, Lib.replaceK, index_skip h]
  by_cases h2 : Lib.index l [0] = -1
  · rw [h2]; rfl
  · have h3 : (Lib.index l [0] == -1) = false := by simpa using h2
    have h4 : (Lib.index l [0] + 1 == -1) = false := by
     have : ¬ Lib.index l [0] + 1 = -1 := by omega
     simpa using this
    rw [h3]
    simp only [Bool.false_eq_true, if_false]
    rw [h4]
    simp only [Bool.false_eq_true, if_false]
    obtain ⟨i, hi⟩ : ∃ i : Nat, Lib.index l [0] = i := ⟨(Lib.index l [0]).toNat, by omega⟩
    rw [hi]
    have e1 : ((i : Int) + 1).toNat = i + 1 := by omega
    have e2 : ((i : Int)).toNat = i := by omega
    rw [e1, e2]
    have e3 : i + 1 + [(0 : UInt8)].length = (i + [(0 : UInt8)].length) + 1 := by omega
    rw [e3, List.drop_succ_cons, List.take_succ_cons]
    rfl
theorem repl_esc : ∀ l : List UInt8, Lib.replaceK [0] [0, 1] (l.count 0) l = escT l
 | [] => rfl
 | b :: l => by
  have ih := repl_esc l
  by_cases h : b = 0
  · subst h
    rw [List.count_cons_self, Lib.replaceK, index_zero, if_neg (by decide)]
    show [] ++ [0, 1] ++ Lib.replaceK [0] [0, 1] (l.count 0) l = _
    rw [ih]
    simp [escT]
  · rw [List.count_cons_of_ne (fun e => h e), repl_skip h, ih, escT, if_neg h]
theorem repl_all (l : List UInt8) : Lib.replaceAll l [0] [0, 1] = escT l := by
 unfold Lib.replaceAll Lib.replace
 rw [if_neg (by decide)]
 unfold Lib.replaceNum
 rw [if_pos (.inl (by omega)), Lib.count_one, repl_esc]
end Go.Proofs.YtjlliohjeiclaaaGreatDoor
namespace Go.Proofs.YtjlliohjeiclaaaGreatDoor
open Go.RowKit St Pm
def encV (e : Ev) : ByteArray × ByteArray := (keyB e.1.st, e.2)
theorem enc_toE {x : Ev} : enc (toE x) = encV x := rfl
structure Reg (l : List Ev) (t : Tr ByteArray) : Prop where
 bal : Bal t
 it : items t = l.map encV
 ok : ∀ x ∈ l, okV x = true
 srt : Srt (items t)
theorem Reg.len {l : List Ev} {t : Tr ByteArray} (h : Reg l t) : sz t = l.length := by rw [← sz_items, h.it, List.length_map]
theorem good_enc {x : Ev} (h : okV x = true) : goodP (encV x) = true ∧ decV (encV x) = x := by
 obtain ⟨h1, h2⟩ := okV_toE h
 have h3 := decV_enc (es := [toE x]) (fun y hy => by rw [List.mem_singleton.1 hy]; exact h1)
 refine ⟨h3.1 _ (by rw [List.map_cons, List.map_nil, enc_toE]; exact List.mem_cons_self), ?_⟩
 have h4 := h3.2
 simp only [List.map_cons, List.map_nil, enc_toE, h2, List.cons.injEq, and_true] at h4
 exact h4
theorem Reg.good {l : List Ev} {t : Tr ByteArray} (h : Reg l t) : (items t).all goodP = true := by
 rw [h.it, List.all_eq_true]
 intro p hp
 obtain ⟨x, hx, rfl⟩ := List.mem_map.1 hp
 exact (good_enc (h.ok x hx)).1
theorem Reg.dec {l : List Ev} {t : Tr ByteArray} (h : Reg l t) : (items t).map decV = l := by
 rw [h.it, List.map_map]
 conv => rhs; rw [← List.map_id l]
 exact List.map_congr_left fun x hx => (good_enc (h.ok x hx)).2
theorem Reg.texts {l : List Ev} {t : Tr ByteArray} (h : Reg l t) : (items t).map (·.2) = l.map (·.2) := by
 rw [h.it, List.map_map]; rfl
theorem ok_lab {s : Sv} (h : s.ok = true) : s.l.size ≤ 12 := by
 have h5 := (Sv.ok_iff.1 h).2.2.2.2.1
 unfold okLabel at h5
 simp only [Bool.and_eq_true, decide_eq_true_eq] at h5
 have := h5.2
 simpa using this
theorem key_size {s : Sv} (h : s.ok = true) : (keyB s.st).size ≤ 31 := by
 have h1 := key_length s.st
 have h2 : (keyB s.st).size = s.st.key.length := by unfold keyB; simp [ByteArray.size]
 have h3 := ok_lab h
 have h4 : s.st.label.length = s.l.size := by unfold Sv.st; simp
 omega
def aheadK (tr : Tr ByteArray) (k : ByteArray) : Bool := !(isNS (endR tr)) || klt (keyOr (endR tr)) k
theorem Reg.ahead {l : List Ev} {t : Tr ByteArray} (h : Reg l t) {s : Sv} (hs : s.ok = true) : aheadK t (keyB s.st) = behindV l s := by
 unfold aheadK behindV
 cases t with
 | nil =>
  have : l = [] := by have := h.len; exact List.length_eq_zero_iff.1 this.symm
  subst this
  rfl
 | node b tl k v tr =>
  obtain ⟨b', l', k', v', r', e1, e2⟩ := endR_items (.node b tl k v tr : Tr ByteArray) (by intro e; cases e)
  rw [e1]
  rw [h.it, h.len, List.getElem?_map] at e2
  rw [← List.getLast?_eq_getElem?] at e2
  cases hl : l.getLast? with
  | none => rw [hl] at e2; cases e2
  | some x =>
   rw [hl] at e2
   simp only [Option.map_some, Option.some.injEq] at e2
   have hx := h.ok x (List.mem_of_getLast? hl)
   have ek : k' = keyB x.1.st := by have := congrArg Prod.fst e2; exact this.symm
   show (!true || klt k' (keyB s.st)) = _
   rw [ek, keyB_klt (Sv.ok_st (okV_iff.1 hx).1).1 (Sv.ok_st hs).1, ← svC_lt (okV_iff.1 hx).1 hs]
   rfl
end Go.Proofs.YtjlliohjeiclaaaGreatDoor
namespace Go.Proofs.YtjlliohjeiclaaaGreatDoor
open Go.RowKit Go.Shelf Go.Proofs St Pm
def lay155_ren : Go.Shelf.Ren := ⟨fun | 138 => 198 | 143 => 200 | 154 => 176 | 155 => 133 | 165 => 199 | 166 => 201 | 169 => 203 | 195 => 213 | 197 => 202 | 217 => 222 | 218 => 214 | 219 => 217 | 224 => 224 | 225 => 223 | 240 => 215 | 241 => 216 | 260 => 218 | 266 => 227 | 267 => 225 | 276 => 220 | 277 => 221 | 314 => 228 | n => n, fun | 0 => 0 | 3 => 3 | 4 => 4 | 5 => 5 | 9 => 9 | 20 => 20 | 21 => 21 | 37 => 113 | 46 => 186 | 51 => 222 | 70 => 252 | 72 => 254 | 75 => 257 | 76 => 258 | 105 => 260 | 119 => 240 | 127 => 272 | 138 => 242 | 139 => 243 | 146 => 277 | 164 => 273 | 80 => 112 | n => n, fun | 1 => 2 | 3 => 0 | 4 => 1 | n => n⟩
theorem lay155 : Go.Proofs.Lays.n155 Tryz.prog lay155_ren := {
 mixed := by kernel_rfl
 f138 := Tryz.func198.trans (congrArg some (by kernel_rfl))
 f143 := Tryz.func200.trans (congrArg some (by kernel_rfl))
 f154 := Tryz.func176.trans (congrArg some (by kernel_rfl))
 f155 := Tryz.func133.trans (congrArg some (by kernel_rfl))
 f165 := Tryz.func199.trans (congrArg some (by kernel_rfl))
 f166 := Tryz.func201.trans (congrArg some (by kernel_rfl))
 f169 := Tryz.func203.trans (congrArg some (by kernel_rfl))
 f195 := Tryz.func213.trans (congrArg some (by kernel_rfl))
 f197 := Tryz.func202.trans (congrArg some (by kernel_rfl))
 f217 := Tryz.func222.trans (congrArg some (by kernel_rfl))
 f218 := Tryz.func214.trans (congrArg some (by kernel_rfl))
 f219 := Tryz.func217.trans (congrArg some (by kernel_rfl))
 f224 := Tryz.func224.trans (congrArg some (by kernel_rfl))
 f225 := Tryz.func223.trans (congrArg some (by kernel_rfl))
 f240 := Tryz.func215.trans (congrArg some (by kernel_rfl))
 f241 := Tryz.func216.trans (congrArg some (by kernel_rfl))
 f260 := Tryz.func218.trans (congrArg some (by kernel_rfl))
 f266 := Tryz.func227.trans (congrArg some (by kernel_rfl))
 f267 := Tryz.func225.trans (congrArg some (by kernel_rfl))
 f276 := Tryz.func220.trans (congrArg some (by kernel_rfl))
 f277 := Tryz.func221.trans (congrArg some (by kernel_rfl))
 f314 := Tryz.func228.trans (congrArg some (by kernel_rfl))
 t0 := Tryz.underlying0
 a0 := Tryz.isAgg0
 z0 := Tryz.sizeOf0
 v0 := Tryz.zeroValue0
 t3 := Tryz.underlying3
 a3 := Tryz.isAgg3
 z3 := Tryz.sizeOf3
 v3 := Tryz.zeroValue3
 t4 := Tryz.underlying4
 a4 := Tryz.isAgg4
 z4 := Tryz.sizeOf4
 v4 := Tryz.zeroValue4
 t5 := Tryz.underlying5
 a5 := Tryz.isAgg5
 z5 := Tryz.sizeOf5
 v5 := Tryz.zeroValue5
 t9 := Tryz.underlying9
 a9 := Tryz.isAgg9
 z9 := Tryz.sizeOf9
 v9 := Tryz.zeroValue9
 t20 := Tryz.underlying20
 a20 := Tryz.isAgg20
 z20 := Tryz.sizeOf20
 v20 := Tryz.zeroValue20
 t21 := Tryz.underlying21
 a21 := Tryz.isAgg21
 z21 := Tryz.sizeOf21
 v21 := Tryz.zeroValue21
 t37 := Tryz.underlying113
 a37 := Tryz.isAgg113
 z37 := Tryz.sizeOf113
 v37 := Tryz.zeroValue113
 t46 := Tryz.underlying186
 a46 := Tryz.isAgg186
 z46 := Tryz.sizeOf186
 v46 := Tryz.zeroValue186
 t51 := Tryz.underlying222
 a51 := Tryz.isAgg222
 z51 := Tryz.sizeOf222
 v51 := Tryz.zeroValue222
 t70 := Tryz.underlying252
 a70 := Tryz.isAgg252
 z70 := Tryz.sizeOf252
 v70 := Tryz.zeroValue252
 t72 := Tryz.underlying254
 a72 := Tryz.isAgg254
 z72 := Tryz.sizeOf254
 v72 := Tryz.zeroValue254
 t75 := Tryz.underlying257
 a75 := Tryz.isAgg257
 z75 := Tryz.sizeOf257
 v75 := Tryz.zeroValue257
 t76 := Tryz.underlying258
 a76 := Tryz.isAgg258
 z76 := Tryz.sizeOf258
 v76 := Tryz.zeroValue258
 t105 := Tryz.underlying260
 a105 := Tryz.isAgg260
 z105 := Tryz.sizeOf260
 v105 := Tryz.zeroValue260
 t119 := Tryz.underlying240
 a119 := Tryz.isAgg240
 z119 := Tryz.sizeOf240
 t127 := Tryz.underlying272
 a127 := Tryz.isAgg272
 z127 := Tryz.sizeOf272
 v127 := Tryz.zeroValue272
 t138 := Tryz.underlying242
 a138 := Tryz.isAgg242
 z138 := Tryz.sizeOf242
 v138 := Tryz.zeroValue242
 t139 := Tryz.underlying243
 a139 := Tryz.isAgg243
 z139 := Tryz.sizeOf243
 v139 := Tryz.zeroValue243
 t146 := Tryz.underlying277
 a146 := Tryz.isAgg277
 z146 := Tryz.sizeOf277
 v146 := Tryz.zeroValue277
 t164 := Tryz.underlying273
 a164 := Tryz.isAgg273
 z164 := Tryz.sizeOf273
 v164 := Tryz.zeroValue273
 g1 := by kernel_rfl
 g3 := by kernel_rfl
 g4 := by kernel_rfl
}
def lay99_ren : Go.Shelf.Ren := ⟨fun | 99 => 111 | 206 => 143 | n => n, fun | 3 => 3 | 4 => 4 | 9 => 9 | n => n, fun n => n⟩
theorem lay99 : Go.Proofs.Lays.n99 Tryz.prog lay99_ren := {
 mixed := by kernel_rfl
 f99 := Tryz.func111.trans (congrArg some (by kernel_rfl))
 f206 := Tryz.func143.trans (congrArg some (by kernel_rfl))
 t3 := Tryz.underlying3
 a3 := Tryz.isAgg3
 z3 := Tryz.sizeOf3
 v3 := Tryz.zeroValue3
 t4 := Tryz.underlying4
 a4 := Tryz.isAgg4
 z4 := Tryz.sizeOf4
 v4 := Tryz.zeroValue4
 t9 := Tryz.underlying9
 a9 := Tryz.isAgg9
 z9 := Tryz.sizeOf9
 v9 := Tryz.zeroValue9
}
theorem ext155 : Builder.Extra Tryz.prog lay155_ren := {
 sizeBuilder := by kernel_rfl
 liesBuilder := by kernel_rfl
 t5 := Tryz.underlying5
 a5 := Tryz.isAgg5
 z5 := Tryz.sizeOf5
 v5 := Tryz.zeroValue5
 infoByte := by kernel_rfl
 cellsByte := by kernel_rfl
 sizeByte := by kernel_rfl
 neB5 := by decide }
theorem ts_HasPrefix (s p : ByteArray) (w : World) :
 Calls Tryz.prog 111 #[.string s, .string p] w fun e w' => e = .returned (.bool (Lib.hasPrefix s.data.toList p.data.toList)) ∧ w' = w :=
 Any.strings_HasPrefix lay99 s p w
theorem ts_Replace (s : ByteArray) (w : World) (hs : s.size ≤ 4294967280) (hG : Glob w) :
 Calls Tryz.prog 133 #[.string s, .string ⟨#[0]⟩, .string ⟨#[0, 1]⟩] w fun e w' => e = .returned (.string ⟨(escT s.data.toList).toArray⟩) ∧ Below w.heap.size w w' := by
 obtain ⟨m, hm⟩ := hG.2
 have h := Any.strings_ReplaceAll lay155 ext155 s ⟨#[0]⟩ ⟨#[0, 1]⟩ m w (by omega) hm (by decide) (by
  have h1 := Lib.countB_le ⟨#[0]⟩ (by decide) s.size s (Nat.le_refl _)
  have h2 : (⟨#[0, 1]⟩ : ByteArray).size = 2 := rfl
  rw [h2]
  omega)
 refine h.mono ?_
 rintro e w' ⟨rfl, hb⟩
 refine ⟨?_, hb⟩
 show Ending.returned (.string ⟨(Lib.replaceAll s.data.toList [0] [0, 1]).toArray⟩) = _
 rw [repl_all]
theorem ts_fits (s : ByteArray) (w : World) : Calls Tryz.prog 64 #[.string s] w fun e w' => e = .returned (.bool (decide (s.size ≤ 256))) ∧ w = w' := by
 go_enter Tryz.func64, Tryz.ntmps64
 go_wp2
 go_ret
 exact ⟨congrArg (fun b => Ending.returned (.bool b)) (by simp; omega), rfl⟩
theorem ts_front (s : ByteArray) (w : World) (hs : s.size ≤ 4294967280) (hG : Glob w) :
 Calls Tryz.prog 95 #[.string s] w fun e w' => e = .returned (.string (frontB s)) ∧ Below w.heap.size w w' := by
 have C := Lib.hid (ts_Replace s w hs hG)
 have hsz : (escT s.data.toList).length ≤ 8589934560 := by
  have h1 := esc_len s.data.toList
  have h2 := dlen s
  omega
 have hfit : ¬ 9223372036854775807 < (⟨(escT s.data.toList).toArray⟩ : ByteArray).size + 2 := by simp [ByteArray.size]; omega
 have hF : Hid ((⟨(escT s.data.toList).toArray⟩ : ByteArray) ++ ⟨#[0, 0]⟩ = frontB s) := Lib.hid (key_ext (by simp [frontB]))
 generalize (⟨(escT s.data.toList).toArray⟩ : ByteArray) = f at *
 clear hs hG hsz
 go_enter Tryz.func95, Tryz.ntmps95
 go_wp2_with fail
 refine C.out.mono ?_
 rintro e w2 ⟨rfl, hb⟩
 go_wp2_with fail
 go_ret
 exact ⟨by rw [← hF.out]; rfl, hb⟩
set_option maxRecDepth 100000 in
set_option maxHeartbeats 2000000 in
theorem ts_Key (x : ByteArray) (s : Sv) (w : World) (hl : s.l.size ≤ 9223372036854775807) (hG : Glob w) :
 Calls Tryz.prog 47 #[.string x, .agg #[.int .i64 s.g, .int .i64 s.r, .string s.l, .int .i64 s.n, .int .i64 s.i]] w fun e w' =>
  e = .returned (if okV (s, x) = true then .tuple #[.string (tagK (s, x)), .int .i64 0] else .tuple #[.string ⟨#[]⟩, .int .i64 2]) ∧ Below w.heap.size w w' := by
 obtain ⟨ok, hok⟩ : ∃ b, s.ok = b := ⟨_, rfl⟩
 obtain ⟨ft, hft⟩ : ∃ b, decide (x.size ≤ 256) = b := ⟨_, rfl⟩
 have hOK : okV (s, x) = (ok && ft) := by rw [← hok, ← hft]; rfl
 have HT : Hid (frontB x ++ keyB s.st = tagK (s, x)) := Lib.hid (tag_front (s, x))
 have b1 := below_new w (.cells #[.int .i64 s.g, .int .i64 s.r, .string s.l, .int .i64 s.n, .int .i64 s.i] 43)
 have G1 := Lib.hid (hG.below b1)
 have C := Lib.hid (stp_Key s (w.alloc (.cells #[.int .i64 s.g, .int .i64 s.r, .string s.l, .int .i64 s.n, .int .i64 s.i] 43)) hl)
 have FT := Lib.hid (fun w' => ts_fits x w')
 have FR := Lib.hid (fun w' (h : ft = true) (hG : Glob w') => ts_front x w' (by have h2 := hft.trans h; simp at h2; omega) hG)
 have hsz : ok = true → ft = true → ¬ 9223372036854775807 < (frontB x).size + (keyB s.st).size := by
  intro h1 h2
  have h3 := key_size (hok.trans h1)
  have h4 : (frontB x).size = (escT x.data.toList).length + 2 := by simp [frontB, ByteArray.size]
  have h5 := esc_len x.data.toList
  have h6 := dlen x
  have h7 := hft.trans h2
  simp at h7
  omega
 have HSZ := Lib.hid hsz
 rw [hOK]
 rw [hok] at C
 rw [hft] at FT
 have B1 := Lib.hid b1
 clear b1 hG hok hft hOK hsz
 go_enter Tryz.func47, Tryz.ntmps47
 go_wp2_with fail
 refine C.out.mono ?_
 rintro e w2 ⟨rfl, hb⟩
 have B2 := Lib.hid (B1.out.trans (hb.mono B1.out.size))
 have G2 := Lib.hid (G1.out.below hb)
 clear hb
 cases ok with
 | false =>
  simp only [Bool.false_and, Bool.false_eq_true, if_false]
  go_wp2_with fail
  go_ret2
  exact ⟨rfl, B2.out⟩
 | true =>
  simp only [Bool.true_and, if_true]
  go_wp2_with fail
  refine (FT.out _).mono ?_
  rintro e _ ⟨rfl, rfl⟩
  cases ft with
  | false =>
   simp only [Bool.false_eq_true, if_false]
   go_wp2_with fail
   go_ret2
   exact ⟨rfl, B2.out⟩
  | true =>
   have hz := HSZ.out (by simp) (by simp)
   generalize frontB x = fr at *
   generalize keyB s.st = kb at *
   simp only [if_true]
   go_wp2_with fail
   refine (FR.out _ (by simp) G2.out).mono ?_
   rintro e w3 ⟨rfl, hb⟩
   go_wp2_with fail
   go_ret2
   exact ⟨by rw [← HT.out]; rfl, B2.out.trans (hb.mono B2.out.size)⟩
end Go.Proofs.YtjlliohjeiclaaaGreatDoor
namespace Go.Proofs.YtjlliohjeiclaaaGreatDoor
open Go.RowKit St Pm
def elO : Option Ev → Value
 | none => .tuple #[.agg #[.int .i64 0, .int .i64 0, .string ⟨#[]⟩, .int .i64 0, .int .i64 0, .string ⟨#[]⟩], .bool false]
 | some e => .tuple #[.agg #[.int .i64 e.1.g, .int .i64 e.1.r, .string e.1.l, .int .i64 e.1.n, .int .i64 e.1.i, .string e.2], .bool true]
theorem el_one6 (g r n i : Int) (l x : ByteArray) : (#[.int .i64 g, .int .i64 r, .string l, .int .i64 n, .int .i64 i, .string x] : Array Value).all (·.oneCell') = true := by simp [Value.oneCell']
theorem drop_two {L : List UInt8} {i : Nat} (h : i + 1 < L.length) : L.drop i = L.getD i 0 :: L.getD (i + 1) 0 :: L.drop (i + 2) ∧ L.drop (i + 1) = L.getD (i + 1) 0 :: L.drop (i + 2) := by
 have h1 : L.drop (i + 1) = L.getD (i + 1) 0 :: L.drop (i + 2) := by
  rw [List.drop_eq_getElem_cons h, List.getD_eq_getElem?_getD, List.getElem?_eq_getElem h]; rfl
 refine ⟨?_, h1⟩
 rw [List.drop_eq_getElem_cons (by omega), h1, List.getD_eq_getElem?_getD, List.getD_eq_getElem?_getD, List.getElem?_eq_getElem (by omega : i < L.length)]; rfl
theorem u8_zero {c : UInt8} (h : (c.toNat : Int) = 0) : c = 0 := UInt8.toNat_inj.1 (show c.toNat = 0 by omega)
theorem u8_one {c : UInt8} (h : (c.toNat : Int) = 1) : c = 1 := UInt8.toNat_inj.1 (show c.toNat = 1 by omega)
theorem decA_few {acc L : List UInt8} (h : L.length ≤ 1) : decA acc L = none := by
 match L, h with
 | [], _ => rw [decA]
 | [_], _ => rw [decA]
set_option maxRecDepth 100000 in
set_option maxHeartbeats 4000000 in
theorem ts_OfKey (k : ByteArray) (w : World) (hs : k.size ≤ 70368744177663) : Calls Tryz.prog 69 #[.string k] w fun e w' => e = .returned (elO (ofT k)) ∧ Below w.heap.size w w' := by
 have BT := Lib.hid u8T
 have E0 : Hid (decA [] k.data.toList = none → elO (ofT k) = .tuple #[.agg #[.int .i64 0, .int .i64 0, .string ⟨#[]⟩, .int .i64 0, .int .i64 0, .string ⟨#[]⟩], .bool false]) := Lib.hid (fun h => by unfold ofT; rw [h]; rfl)
 have E1 : Hid (∀ t r, decA [] k.data.toList = some (t, r) → ofK ⟨r.toArray⟩ = none → elO (ofT k) = .tuple #[.agg #[.int .i64 0, .int .i64 0, .string ⟨#[]⟩, .int .i64 0, .int .i64 0, .string ⟨#[]⟩], .bool false]) := Lib.hid (fun t r h h2 => by unfold ofT; rw [h]; simp only [h2]; rfl)
 have E2 : Hid (∀ t r s, decA [] k.data.toList = some (t, r) → ofK ⟨r.toArray⟩ = some s → ¬ t.length ≤ 256 → elO (ofT k) = .tuple #[.agg #[.int .i64 0, .int .i64 0, .string ⟨#[]⟩, .int .i64 0, .int .i64 0, .string ⟨#[]⟩], .bool false]) := Lib.hid (fun t r s h h2 h3 => by unfold ofT; rw [h]; simp only [h2]; rw [if_neg h3]; rfl)
 have E3 : Hid (∀ t r s, decA [] k.data.toList = some (t, r) → ofK ⟨r.toArray⟩ = some s → t.length ≤ 256 → elO (ofT k) = .tuple #[.agg #[.int .i64 s.g, .int .i64 s.r, .string s.l, .int .i64 s.n, .int .i64 s.i, .string ⟨t.toArray⟩], .bool true]) := Lib.hid (fun t r s h h2 h3 => by unfold ofT; rw [h]; simp only [h2]; rw [if_pos h3]; rfl)
 generalize elO (ofT k) = out at *
 have x1 := heap_alloc_new w (.cells #[.int .i64 0, .int .i64 0, .string ⟨#[]⟩, .int .i64 0, .int .i64 0, .string ⟨#[]⟩] 53)
 have b1 := below_new w (.cells #[.int .i64 0, .int .i64 0, .string ⟨#[]⟩, .int .i64 0, .int .i64 0, .string ⟨#[]⟩] 53)
 have hz : (w.alloc (.cells #[.int .i64 0, .int .i64 0, .string ⟨#[]⟩, .int .i64 0, .int .i64 0, .string ⟨#[]⟩] 53)).heap.size = w.heap.size + 1 := by simp
 go_enter Tryz.func69, Tryz.ntmps69
 go_upto_region 1 with (fail)
 generalize w.alloc (.cells #[.int .i64 0, .int .i64 0, .string ⟨#[]⟩, .int .i64 0, .int .i64 0, .string ⟨#[]⟩] 53) = W at *
 obtain ⟨z, hzz⟩ : ∃ z, w.heap.size = z := ⟨_, rfl⟩
 rw [hzz] at x1 b1 hz ⊢
 have X1 := Lib.hid x1
 have B1 := Lib.hid b1
 have HLK := Lib.hid (dlen k)
 clear x1 b1
 go_step3
 go_wp2_with fail
 go_step3
 go_wp2_with fail
 go_loopw [4, 5] (fun tv iv wr => ∃ (i : Nat) (T : List UInt8), iv = .int .i64 (i : Int) ∧ i ≤ k.size ∧ T.length ≤ i ∧ Hid (wr.ownsRow (z + 1) 5 1 tv T.length (bvs T)) ∧ Hid (Below (z + 1) W wr) ∧ Hid (decA T (k.data.toList.drop i) = decA [] k.data.toList)) (fun _ iv _ => k.size - (intOf iv).toNat)
 case atStart => exact ⟨0, [], rfl, Nat.zero_le _, Nat.le_refl _, Lib.hid ⟨rfl, Or.inl ⟨rfl, rfl⟩⟩, Lib.hid (Below.refl _ _), Lib.hid (by rw [List.drop_zero])⟩
 case round =>
  obtain ⟨i, T, rfl, hi, hTi, HO, HB, HD⟩ := hrel
  have hws : z + 1 ≤ wr.heap.size := by have := HB.out.size; omega
  have Y1 : Hid (wr.heap[z]? = some (.cells #[.int .i64 0, .int .i64 0, .string ⟨#[]⟩, .int .i64 0, .int .i64 0, .string ⟨#[]⟩] 53 (0, 0))) := Lib.hid ((HB.out.block z (by omega)).trans X1.out)
  have BW : Hid (Below z w wr) := Lib.hid (B1.out.trans (HB.out.mono (by omega)))
  by_cases hlt : i + 1 < k.size
  · have hlti : (i : Int) + 1 < (k.size : Int) := by omega
    have hLl : i + 1 < k.data.toList.length := by rw [HLK.out]; exact hlt
    obtain ⟨hd1, hd2⟩ := drop_two hLl
    have IX := Lib.hid (fun w' => ix_str (P := Tryz.prog) w' 9 Tryz.underlying9 k i (i : Int) rfl (by omega))
    have IY := Lib.hid (fun w' => ix_str (P := Tryz.prog) w' 9 Tryz.underlying9 k (i + 1) ((i : Int) + 1) (by omega) (by omega))
    obtain ⟨c, hc⟩ : ∃ c, k.data.toList.getD i 0 = c := ⟨_, rfl⟩
    obtain ⟨d, hd⟩ : ∃ d, k.data.toList.getD (i + 1) 0 = d := ⟨_, rfl⟩
    rw [hc, hd] at hd1
    rw [hd] at hd2
    rw [hc] at IX
    rw [hd] at IY
    have HD1 := Lib.hid hd1
    have HD2 := Lib.hid hd2
    clear hd1 hd2 hc hd hLl
    have hwi : IntKind.i64.wrap ((i : Int) + 1) = (i : Int) + 1 := by rw [IntKind.wrap_i64]; omega
    by_cases hc0 : c = 0
    · subst hc0
      rw [show (((0 : UInt8).toNat : Nat) : Int) = 0 from rfl] at IX
      have HDN := HD.out
      rw [HD1.out, decA, if_neg (by simp)] at HDN
      by_cases hd1 : d = 1
      · subst hd1
        rw [show (((1 : UInt8).toNat : Nat) : Int) = 1 from rfl] at IY
        rw [if_pos rfl] at HDN
        have HDM := Lib.hid HDN
        have ix := IX.out wr
        have iy := IY.out wr
        clear HDN
        go_wp2_with (at_builtin; go_must (refine wpList_appb rfl _ _ 113 113 rfl (z + 1) 5 BT.out _ T rfl (HO.out.alloc _) _ [0] rfl (src_one Tryz.underlying113 _ 5 0 _ (by rfl)) (by simp; omega) (by simp; omega) ?_); go_must (intro v6 w6 hown _ hbel _))
        have HO6 := Lib.hid hown
        have HB6 := Lib.hid ((HB.out.alloc (by simpa using hws) _).trans hbel)
        clear hown hbel ix iy
        go_wp2_with fail
        go_roundw
        case rel => exact ⟨i + 2, T ++ [0], by go_num, by omega, by simp; omega, HO6, HB6, HDM⟩
        case measure => simp [intOf]; omega
      · rw [if_neg hd1] at HDN
        have hd1i : ((d.toNat : Int) == 1) = false := by
         exact beq_eq_false_iff_ne.2 fun e => hd1 (u8_one e)
        by_cases hd0 : d = 0
        · subst hd0
          rw [show (((0 : UInt8).toNat : Nat) : Int) = 0 from rfl] at IY
          rw [if_pos rfl] at HDN
          have HDM := Lib.hid HDN.symm
          have SF := Lib.hid (fun w' => sl_from (P := Tryz.prog) w' 9 Tryz.underlying9 k (i + 2) ((i : Int) + 2) (by omega) (by omega))
          have hme : (k.extract (i + 2) k.size) = ⟨(k.data.toList.drop (i + 2)).toArray⟩ := key_ext (by
           have := dlen k
           simp [List.take_of_length_le])
          obtain ⟨m, hm⟩ : ∃ m, k.extract (i + 2) k.size = m := ⟨_, rfl⟩
          have hmz : m.size ≤ 9223372036854775807 := by have := ext_size k (i + 2) k.size; rw [hm] at this; omega
          rw [hm] at SF hme
          have HME := Lib.hid hme
          clear hme hm
          obtain ⟨ta, tc, htv, _⟩ := own_slice HO.out
          subst htv
          have BY := Lib.hid (own_bytes HO.out)
          have HTS : Hid ((⟨T.toArray⟩ : ByteArray).size = T.length) := Lib.hid (by simp [ByteArray.size])
          have hwj : IntKind.i64.wrap ((i : Int) + 2) = (i : Int) + 2 := by rw [IntKind.wrap_i64]; omega
          have ix := IX.out wr
          have iy := IY.out wr
          have sf := SF.out wr
          go_wp2_with fail
          refine (stp_OfKey m wr hmz).mono ?_
          rintro e w2 ⟨rfl, hb⟩
          have HB2 := Lib.hid hb
          have hws2 : z + 1 ≤ w2.heap.size := Nat.le_trans hws hb.size
          clear hb ix iy sf
          cases hok : ofK m with
          | none =>
           have EF := Lib.hid (E1.out _ _ HDM.out (by rw [← HME.out]; exact hok))
           simp only [stO]
           have YF : Hid ((w2.alloc (.cells #[.int .i64 0, .int .i64 0, .string ⟨#[]⟩, .int .i64 0, .int .i64 0] 43)).heap[z]? = some (.cells #[.int .i64 0, .int .i64 0, .string ⟨#[]⟩, .int .i64 0, .int .i64 0, .string ⟨#[]⟩] 53 (0, 0))) := Lib.hid (boxStays (boxStays Y1.out HB2.out) (below_new _ _))
           have BF : Hid (Below z w (w2.alloc (.cells #[.int .i64 0, .int .i64 0, .string ⟨#[]⟩, .int .i64 0, .int .i64 0] 43))) := Lib.hid ((BW.out.trans (HB2.out.mono (by omega))).alloc (by omega) _)
           clear hok
           go_wp2_with (refine wpList_store_row rfl 53 (.tmp 2) (.tmp 63) rfl z #[.int .i64 0, .int .i64 0, .string ⟨#[]⟩, .int .i64 0, .int .i64 0, .string ⟨#[]⟩] rfl rfl 53 _ YF.out (by kernel_rfl) rfl (el_one6 _ _ _ _ _ _) ?_)
           have Y := setRow_heap _ z _ #[.int .i64 0, .int .i64 0, .string ⟨#[]⟩, .int .i64 0, .int .i64 0, .string ⟨#[]⟩] _ _ YF.out
           have q0 := cell_of_row _ _ 0 _ _ _ Y
           have q1 := cell_of_row _ _ 1 _ _ _ Y
           have q2 := cell_of_row _ _ 2 _ _ _ Y
           have q3 := cell_of_row _ _ 3 _ _ _ Y
           have q4 := cell_of_row _ _ 4 _ _ _ Y
           have q5 := cell_of_row _ _ 5 _ _ _ Y
           try rw [Exit.noGoto_ret]
           try show bodyPost _ _ _ _ _ _
           refine bodyPost_ret (v := .tuple #[.agg #[.int .i64 0, .int .i64 0, .string ⟨#[]⟩, .int .i64 0, .int .i64 0, .string ⟨#[]⟩], .bool false]) (by simp [results, Tryz.results69, go_sem, q0, q1, q2, q3, q4, q5]) rfl ?_
           exact ⟨by rw [EF.out], by rw [hzz]; exact below_setRow BF.out (Nat.le_refl _) _⟩
          | some s =>
           have hok2 : ofK ⟨(k.data.toList.drop (i + 2)).toArray⟩ = some s := by rw [← HME.out]; exact hok
           have EE := Lib.hid (E2.out _ _ s HDM.out hok2)
           have EG := Lib.hid (E3.out _ _ s HDM.out hok2)
           simp only [stO, stA]
           have YF : Hid ((w2.alloc (.cells #[.int .i64 s.g, .int .i64 s.r, .string s.l, .int .i64 s.n, .int .i64 s.i] 43)).heap[z]? = some (.cells #[.int .i64 0, .int .i64 0, .string ⟨#[]⟩, .int .i64 0, .int .i64 0, .string ⟨#[]⟩] 53 (0, 0))) := Lib.hid (boxStays (boxStays Y1.out HB2.out) (below_new _ _))
           have BF : Hid (Below z w (w2.alloc (.cells #[.int .i64 s.g, .int .i64 s.r, .string s.l, .int .i64 s.n, .int .i64 s.i] 43))) := Lib.hid ((BW.out.trans (HB2.out.mono (by omega))).alloc (by omega) _)
           have hx3 := heap_alloc_new w2 (.cells #[.int .i64 s.g, .int .i64 s.r, .string s.l, .int .i64 s.n, .int .i64 s.i] 43)
           have hby := (BY.out.below HB2.out rfl).below (below_new w2 (.cells #[.int .i64 s.g, .int .i64 s.r, .string s.l, .int .i64 s.n, .int .i64 s.i] 43)) rfl
           clear hok hok2
           go_upto_region 6 with (fail)
           generalize w2.alloc (.cells #[.int .i64 s.g, .int .i64 s.r, .string s.l, .int .i64 s.n, .int .i64 s.i] 43) = w3 at *
           obtain ⟨y, hy⟩ : ∃ y, w2.heap.size = y := ⟨_, rfl⟩
           rw [hy] at hx3 ⊢
           have hcv : (convert 113 9 (.slice ta T.length tc)).run Tryz.prog w3 = .ok (.string ⟨T.toArray⟩) w3 := conv_bytes (P := Tryz.prog) (l := T) hby 113 5 9 Tryz.underlying113 Tryz.underlying5 Tryz.underlying9 T.length tc rfl
           go_wp2_with fail
           refine (ts_fits _ _).mono ?_
           rintro e _ ⟨rfl, rfl⟩
           by_cases hf : T.length ≤ 256
           · rw [decide_eq_true (by rw [HTS.out]; exact hf)]
             have EF := Lib.hid (EG.out hf)
             have s0 := cell_of_row _ _ 0 _ _ _ hx3
             have s1 := cell_of_row _ _ 1 _ _ _ hx3
             have s2 := cell_of_row _ _ 2 _ _ _ hx3
             have s3 := cell_of_row _ _ 3 _ _ _ hx3
             have s4 := cell_of_row _ _ 4 _ _ _ hx3
             clear hf
             go_wp2_with (refine wpList_store_row rfl 53 (.tmp 2) (.tmp 34) rfl z #[.int .i64 s.g, .int .i64 s.r, .string s.l, .int .i64 s.n, .int .i64 s.i, .string ⟨T.toArray⟩] rfl rfl 53 _ YF.out (by kernel_rfl) rfl (el_one6 _ _ _ _ _ _) ?_)
             have Y := setRow_heap _ z _ #[.int .i64 s.g, .int .i64 s.r, .string s.l, .int .i64 s.n, .int .i64 s.i, .string ⟨T.toArray⟩] _ _ YF.out
             have q0 := cell_of_row _ _ 0 _ _ _ Y
             have q1 := cell_of_row _ _ 1 _ _ _ Y
             have q2 := cell_of_row _ _ 2 _ _ _ Y
             have q3 := cell_of_row _ _ 3 _ _ _ Y
             have q4 := cell_of_row _ _ 4 _ _ _ Y
             have q5 := cell_of_row _ _ 5 _ _ _ Y
             try rw [Exit.noGoto_ret]
             try show bodyPost _ _ _ _ _ _
             refine bodyPost_ret (v := .tuple #[.agg #[.int .i64 s.g, .int .i64 s.r, .string s.l, .int .i64 s.n, .int .i64 s.i, .string ⟨T.toArray⟩], .bool true]) (by simp [results, Tryz.results69, go_sem, q0, q1, q2, q3, q4, q5]) rfl ?_
             exact ⟨by rw [EF.out], by rw [hzz]; exact below_setRow BF.out (Nat.le_refl _) _⟩
           · rw [decide_eq_false (by rw [HTS.out]; exact hf)]
             have EF := Lib.hid (EE.out hf)
             clear hf
             go_wp2_with (refine wpList_store_row rfl 53 (.tmp 2) (.tmp 63) rfl z #[.int .i64 0, .int .i64 0, .string ⟨#[]⟩, .int .i64 0, .int .i64 0, .string ⟨#[]⟩] rfl rfl 53 _ YF.out (by kernel_rfl) rfl (el_one6 _ _ _ _ _ _) ?_)
             have Y := setRow_heap _ z _ #[.int .i64 0, .int .i64 0, .string ⟨#[]⟩, .int .i64 0, .int .i64 0, .string ⟨#[]⟩] _ _ YF.out
             have q0 := cell_of_row _ _ 0 _ _ _ Y
             have q1 := cell_of_row _ _ 1 _ _ _ Y
             have q2 := cell_of_row _ _ 2 _ _ _ Y
             have q3 := cell_of_row _ _ 3 _ _ _ Y
             have q4 := cell_of_row _ _ 4 _ _ _ Y
             have q5 := cell_of_row _ _ 5 _ _ _ Y
             try rw [Exit.noGoto_ret]
             try show bodyPost _ _ _ _ _ _
             refine bodyPost_ret (v := .tuple #[.agg #[.int .i64 0, .int .i64 0, .string ⟨#[]⟩, .int .i64 0, .int .i64 0, .string ⟨#[]⟩], .bool false]) (by simp [results, Tryz.results69, go_sem, q0, q1, q2, q3, q4, q5]) rfl ?_
             exact ⟨by rw [EF.out], by rw [hzz]; exact below_setRow BF.out (Nat.le_refl _) _⟩
        · rw [if_neg hd0] at HDN
          have hgt : (1 : Int) < (d.toNat : Int) := by
           have h1 : ¬ (d.toNat : Int) = 0 := fun e => hd0 (u8_zero e)
           have h2 : ¬ (d.toNat : Int) = 1 := fun e => hd1 (u8_one e)
           omega
          have EF := Lib.hid (E0.out HDN.symm)
          have YF := Y1
          have BF := BW
          generalize (d.toNat : Int) = dn at *
          have ix := IX.out wr
          have iy := IY.out wr
          clear HDN
          go_wp2_with (refine wpList_store_row rfl 53 (.tmp 2) (.tmp 63) rfl z #[.int .i64 0, .int .i64 0, .string ⟨#[]⟩, .int .i64 0, .int .i64 0, .string ⟨#[]⟩] rfl rfl 53 _ YF.out (by kernel_rfl) rfl (el_one6 _ _ _ _ _ _) ?_)
          have Y := setRow_heap _ z _ #[.int .i64 0, .int .i64 0, .string ⟨#[]⟩, .int .i64 0, .int .i64 0, .string ⟨#[]⟩] _ _ YF.out
          have q0 := cell_of_row _ _ 0 _ _ _ Y
          have q1 := cell_of_row _ _ 1 _ _ _ Y
          have q2 := cell_of_row _ _ 2 _ _ _ Y
          have q3 := cell_of_row _ _ 3 _ _ _ Y
          have q4 := cell_of_row _ _ 4 _ _ _ Y
          have q5 := cell_of_row _ _ 5 _ _ _ Y
          try rw [Exit.noGoto_ret]
          try show bodyPost _ _ _ _ _ _
          refine bodyPost_ret (v := .tuple #[.agg #[.int .i64 0, .int .i64 0, .string ⟨#[]⟩, .int .i64 0, .int .i64 0, .string ⟨#[]⟩], .bool false]) (by simp [results, Tryz.results69, go_sem, q0, q1, q2, q3, q4, q5]) rfl ?_
          exact ⟨by rw [EF.out], by rw [hzz]; exact below_setRow BF.out (Nat.le_refl _) _⟩
    · have hci : ((c.toNat : Int) != 0) = true := by
       exact bne_iff_ne.2 fun e => hc0 (u8_zero e)
      have HDN := HD.out
      rw [HD1.out, decA, if_pos hc0, ← HD2.out] at HDN
      have HDM := Lib.hid HDN
      have ix := IX.out wr
      clear HDN
      go_wp2_with (at_builtin; go_must (refine wpList_appb rfl _ _ 113 113 rfl (z + 1) 5 BT.out _ T rfl (HO.out.alloc _) _ [c] rfl (src_one Tryz.underlying113 _ 5 c _ (by rfl)) (by simp; omega) (by simp; omega) ?_); go_must (intro v6 w6 hown _ hbel _))
      have HO6 := Lib.hid hown
      have HB6 := Lib.hid ((HB.out.alloc (by simpa using hws) _).trans hbel)
      clear hown hbel ix
      go_wp2_with fail
      go_roundw
      case rel => exact ⟨i + 1, T ++ [c], by go_num, by omega, by simp; omega, HO6, HB6, HDM⟩
      case measure => simp [intOf]; omega
  · have hlti : ¬ (i : Int) + 1 < (k.size : Int) := by omega
    have HDN := HD.out
    rw [decA_few (by rw [List.length_drop, HLK.out]; omega)] at HDN
    have EF := Lib.hid (E0.out HDN.symm)
    have YF := Y1
    have BF := BW
    clear HDN
    go_wp2_with (refine wpList_store_row rfl 53 (.tmp 2) (.tmp 63) rfl z #[.int .i64 0, .int .i64 0, .string ⟨#[]⟩, .int .i64 0, .int .i64 0, .string ⟨#[]⟩] rfl rfl 53 _ YF.out (by kernel_rfl) rfl (el_one6 _ _ _ _ _ _) ?_)
    have Y := setRow_heap _ z _ #[.int .i64 0, .int .i64 0, .string ⟨#[]⟩, .int .i64 0, .int .i64 0, .string ⟨#[]⟩] _ _ YF.out
    have q0 := cell_of_row _ _ 0 _ _ _ Y
    have q1 := cell_of_row _ _ 1 _ _ _ Y
    have q2 := cell_of_row _ _ 2 _ _ _ Y
    have q3 := cell_of_row _ _ 3 _ _ _ Y
    have q4 := cell_of_row _ _ 4 _ _ _ Y
    have q5 := cell_of_row _ _ 5 _ _ _ Y
    try rw [Exit.noGoto_ret]
    try show bodyPost _ _ _ _ _ _
    refine bodyPost_ret (v := .tuple #[.agg #[.int .i64 0, .int .i64 0, .string ⟨#[]⟩, .int .i64 0, .int .i64 0, .string ⟨#[]⟩], .bool false]) (by simp [results, Tryz.results69, go_sem, q0, q1, q2, q3, q4, q5]) rfl ?_
    exact ⟨by rw [EF.out], by rw [hzz]; exact below_setRow BF.out (Nat.le_refl _) _⟩
end Go.Proofs.YtjlliohjeiclaaaGreatDoor
namespace Go.Proofs.YtjlliohjeiclaaaGreatDoor
open Go.RowKit St Pm
def encT (e : Ev) : ByteArray × ByteArray := (tagK e, e.2)
def goodT (p : ByteArray × ByteArray) : Bool := match ofT p.1 with
 | some e => decide (e.2 = p.2)
 | none => false
def decT (p : ByteArray × ByteArray) : Ev := (ofT p.1).getD (⟨0, 0, ⟨#[]⟩, 0, 0⟩, ⟨#[]⟩)
theorem goodT_none {k v : ByteArray} (h : ofT k = none) : goodT (k, v) = false := by unfold goodT; rw [show (k, v).1 = k from rfl, h]
theorem goodT_some {k v : ByteArray} {e : Ev} (h : ofT k = some e) : goodT (k, v) = decide (e.2 = v) ∧ decT (k, v) = e := by
 unfold goodT decT
 rw [show (k, v).1 = k from rfl, h]
 exact ⟨rfl, rfl⟩
theorem goodT_enc {e : Ev} (h : okV e = true) : goodT (encT e) = true ∧ decT (encT e) = e := by
 have h1 := goodT_some (v := e.2) (ofT_tag h)
 unfold encT
 exact ⟨by rw [h1.1]; simp, h1.2⟩
theorem goodT_iff {p : ByteArray × ByteArray} (h : goodT p = true) : okV (decT p) = true ∧ p = encT (decT p) := by
 obtain ⟨k, v⟩ := p
 cases ho : ofT k with
 | none => rw [goodT_none ho] at h; cases h
 | some e =>
  obtain ⟨h1, h2⟩ := goodT_some (v := v) ho
  obtain ⟨h3, h4⟩ := ofT_some ho
  rw [h1] at h
  rw [h2]
  refine ⟨h3, ?_⟩
  have := of_decide_eq_true h
  unfold encT
  rw [← h4, this]
structure Tag (l : List Ev) (t : Tr ByteArray) : Prop where
 bal : Bal t
 it : items t = l.map encT
 ok : ∀ x ∈ l, okV x = true
 srt : Srt (items t)
theorem Tag.len {l : List Ev} {t : Tr ByteArray} (h : Tag l t) : sz t = l.length := by rw [← sz_items, h.it, List.length_map]
theorem Tag.good {l : List Ev} {t : Tr ByteArray} (h : Tag l t) : (items t).all goodT = true := by
 rw [h.it, List.all_eq_true]
 intro p hp
 obtain ⟨x, hx, rfl⟩ := List.mem_map.1 hp
 exact (goodT_enc (h.ok x hx)).1
theorem Tag.dec {l : List Ev} {t : Tr ByteArray} (h : Tag l t) : (items t).map decT = l := by
 rw [h.it, List.map_map]
 conv => rhs; rw [← List.map_id l]
 exact List.map_congr_left fun x hx => (goodT_enc (h.ok x hx)).2
theorem tag_size {e : Ev} (h : okV e = true) : (tagK e).size ≤ 545 := by
 obtain ⟨h1, h2⟩ := okV_iff.1 h
 have h3 := key_size h1
 have h4 : (keyB e.1.st).size = e.1.st.key.length := by unfold keyB; simp [ByteArray.size]
 have h5 := esc_len e.2.data.toList
 have h6 := dlen e.2
 have h7 : (tagK e).size = (escT e.2.data.toList).length + (2 + e.1.st.key.length) := by unfold tagK; simp [ByteArray.size]; omega
 omega
theorem tag_nil : Tag [] .nil := ⟨trivial, rfl, fun x hx => (by cases hx), List.Pairwise.nil⟩
def ltT (a b : Ev) : Bool := klt a.2 b.2 || (decide (a.2 = b.2) && a.1.st.lt b.1.st)
theorem ltT_key {a b : Ev} (ha : okV a = true) (hb : okV b = true) : klt (tagK a) (tagK b) = ltT a b := tag_lt (okV_iff.1 ha).1 (okV_iff.1 hb).1
def insT (x : Ev) : List Ev → List Ev
 | [] => [x]
 | y :: l => if ltT x y = true then x :: y :: l else if ltT y x = true then y :: insT x l else x :: l
theorem insT_enc {x : Ev} (hx : okV x = true) : ∀ {l : List Ev}, (∀ y ∈ l, okV y = true) → ins (tagK x) x.2 (l.map encT) = (insT x l).map encT
 | [], _ => rfl
 | y :: l, h => by
  have hy := h y List.mem_cons_self
  have ih := insT_enc hx (l := l) fun z hz => h z (List.mem_cons_of_mem _ hz)
  rw [List.map_cons]
  show ins (tagK x) x.2 ((tagK y, y.2) :: l.map encT) = _
  unfold ins insT
  rw [ltT_key hx hy, ltT_key hy hx]
  by_cases h1 : ltT x y = true
  · rw [if_pos h1, if_pos h1]; rfl
  · rw [if_neg h1, if_neg h1]
    by_cases h2 : ltT y x = true
    · rw [if_pos h2, if_pos h2, ih]; rfl
    · rw [if_neg h2, if_neg h2]; rfl
theorem insT_mem {x y : Ev} : ∀ {l : List Ev}, y ∈ insT x l → y = x ∨ y ∈ l
 | [], h => .inl (List.mem_singleton.1 h)
 | z :: l, h => by
  unfold insT at h
  split at h
  · exact List.mem_cons.1 h
  · split at h
    · rcases List.mem_cons.1 h with rfl | h
      · exact .inr List.mem_cons_self
      · exact (insT_mem h).imp_right (List.mem_cons_of_mem _)
    · rcases List.mem_cons.1 h with rfl | h
      · exact .inl rfl
      · exact .inr (List.mem_cons_of_mem _ h)
theorem insT_le (x : Ev) : ∀ l : List Ev, (insT x l).length ≤ l.length + 1
 | [] => by simp [insT]
 | y :: l => by
  have ih := insT_le x l
  unfold insT
  split
  · simp
  · split
    · simp; omega
    · simp
theorem tag_put {l : List Ev} {t t' : Tr ByteArray} {x : Ev} (h : Tag l t) (hx : okV x = true) (hB : Bal t') (hi : items t' = ins (tagK x) x.2 (items t)) : Tag (insT x l) t' :=
 ⟨hB, by rw [hi, h.it, insT_enc hx h.ok], fun y hy => (insT_mem hy).elim (fun e => by rw [e]; exact hx) (h.ok y), by rw [hi]; exact ins_srt h.srt⟩
def setT (L : List Ev) : List Ev := L.foldl (fun l x => insT x l) []
theorem setT_snoc (L : List Ev) (x : Ev) : setT (L ++ [x]) = insT x (setT L) := by unfold setT; rw [List.foldl_append]; rfl
theorem tag_front_lt (a : Ev) (x : ByteArray) : klt (tagK a) (frontB x) = klt a.2 x := by
 unfold klt
 rw [ByteArray.toList_eq, ByteArray.toList_eq, ByteArray.toList_eq, ByteArray.toList_eq]
 have h : (frontB x).data.toList = escT x.data.toList ++ 0 :: 0 :: [] := by simp [frontB]
 rw [h]
 unfold tagK
 simp only [List.toList_toArray]
 rw [bl_esc, bl_nil]
 simp
theorem while_filter {α : Type} (ge pre : α → Bool) : ∀ {l : List α}, (∀ p ∈ l, pre p = true → ge p = true) → l.Pairwise (fun p q => ge p = true → pre q = true → pre p = true) → (l.filter ge).takeWhile pre = l.filter pre
 | [], _, _ => rfl
 | p :: l, h1, h2 => by
  rw [List.pairwise_cons] at h2
  have ih := while_filter ge pre (l := l) (fun q hq => h1 q (List.mem_cons_of_mem _ hq)) h2.2
  cases hg : ge p with
  | true =>
   rw [List.filter_cons_of_pos hg]
   cases hp : pre p with
   | true => rw [List.takeWhile_cons_of_pos hp, ih, List.filter_cons_of_pos hp]
   | false =>
    rw [List.takeWhile_cons_of_neg (by rw [hp]; simp), List.filter_cons_of_neg (by rw [hp]; simp)]
    symm
    rw [List.filter_eq_nil_iff]
    intro q hq hqp
    have := h2.1 q hq hg hqp
    rw [hp] at this; cases this
  | false =>
   have hp : pre p = false := by
    cases hp : pre p with
    | false => rfl
    | true => rw [h1 p List.mem_cons_self hp] at hg; cases hg
   rw [List.filter_cons_of_neg (by rw [hg]; simp), List.filter_cons_of_neg (by rw [hp]; simp), ih]
def preT (x : ByteArray) (p : ByteArray × ByteArray) : Bool := Lib.hasPrefix p.1.data.toList (frontB x).data.toList
def tagsL (x : ByteArray) (t : Tr ByteArray) : List (ByteArray × ByteArray) := (fromL (frontB x) t).takeWhile (preT x)
def ofX (x : ByteArray) (e : Ev) : Bool := decide (e.2 = x)
theorem preT_enc (x : ByteArray) (e : Ev) : preT x (encT e) = ofX x e := by
 unfold preT ofX
 rw [← front_pre x e]
 unfold Lib.hasPrefix
 simp [frontB, encT]
theorem Tag.tags {l : List Ev} {t : Tr ByteArray} (h : Tag l t) (x : ByteArray) : tagsL x t = (l.filter (ofX x)).map encT := by
 unfold tagsL
 rw [fromL_filter _ _ h.srt]
 have hs := h.srt
 rw [h.it] at hs ⊢
 rw [while_filter, List.filter_map]
 · congr 1
   refine List.filter_congr fun e _ => ?_
   exact preT_enc x e
 · intro p hp hq
   obtain ⟨e, he, rfl⟩ := List.mem_map.1 hp
   rw [preT_enc] at hq
   have := of_decide_eq_true hq
   show (!klt (tagK e) (frontB x)) = true
   rw [tag_front_lt, this, klt_irrefl]; rfl
 · rw [List.pairwise_map]
   unfold Srt at hs
   rw [List.pairwise_map] at hs
   refine List.Pairwise.imp_of_mem (fun {a b} ha hb hab hg hq => ?_) hs
   rw [preT_enc] at hq ⊢
   have e1 := of_decide_eq_true hq
   have hg2 : klt a.2 x = false := by
    have : (!klt (tagK a) (frontB x)) = true := hg
    rw [tag_front_lt] at this
    simpa using this
   have h3 : ltT a b = true := by rw [← ltT_key (h.ok a ha) (h.ok b hb)]; exact hab
   unfold ltT at h3
   rw [e1, hg2] at h3
   simp only [Bool.false_or, Bool.and_eq_true] at h3
   exact h3.1
def delL (ks : List (ByteArray × ByteArray)) (l : List (ByteArray × ByteArray)) : List (ByteArray × ByteArray) := ks.foldl (fun m p => del p.1 m) l
theorem delL_filter : ∀ (ks l : List (ByteArray × ByteArray)), delL ks l = l.filter fun p => !(ks.any fun q => decide (q.1 = p.1))
 | [], l => by
  show l = _
  symm
  rw [List.filter_eq_self]
  intro p _; rfl
 | k :: ks, l => by
  have ih := delL_filter ks (del k.1 l)
  show delL ks (del k.1 l) = _
  rw [ih]
  unfold del
  rw [List.filter_filter]
  refine List.filter_congr fun p _ => ?_
  rw [List.any_cons]
  by_cases h : k.1 = p.1
  · simp [h]
  · have h2 : ¬ p.1 = k.1 := fun e => h e.symm
    simp [h, h2]
theorem Tag.del {l : List Ev} {t : Tr ByteArray} (h : Tag l t) (x : ByteArray) : delL (tagsL x t) (items t) = (l.filter fun e => !ofX x e).map encT := by
 rw [h.tags, delL_filter, h.it, List.filter_map]
 congr 1
 refine List.filter_congr fun e he => ?_
 show (!_) = !_
 congr 1
 rw [Bool.eq_iff_iff, List.any_map, List.any_eq_true]
 constructor
 · rintro ⟨y, hy, h1⟩
   obtain ⟨hy1, hy2⟩ := List.mem_filter.1 hy
   have h2 : tagK y = tagK e := of_decide_eq_true h1
   rw [← tag_inj (h.ok y hy1) (h.ok e he) h2]
   exact hy2
 · intro h1
   exact ⟨e, List.mem_filter.2 ⟨he, h1⟩, decide_eq_true rfl⟩
theorem tag_del {l : List Ev} {t t' : Tr ByteArray} {x : ByteArray} (h : Tag l t) (hB : Bal t') (hi : items t' = delL (tagsL x t) (items t)) : Tag (l.filter fun e => !ofX x e) t' := by
 refine ⟨hB, by rw [hi, h.del], fun y hy => h.ok y (List.mem_filter.1 hy).1, ?_⟩
 rw [hi, delL_filter]
 exact h.srt.sublist List.filter_sublist
end Go.Proofs.YtjlliohjeiclaaaGreatDoor
namespace Go.Proofs.YtjlliohjeiclaaaGreatDoor
open Go.RowKit St Pm
attribute [local go_sem] Oper.semAt_some
set_option maxRecDepth 100000 in
set_option maxHeartbeats 2000000 in
theorem ts_own1 (x : Ev) (c base n : Nat) (v : Value) (xs : List Value) (W : World) (hc : Boxed W c 22 v) (ho : W.ownsRow base 53 6 v n xs) (hb : base ≤ W.heap.size) (hcb : c < base) (hn : n ≤ 200000) :
 Calls Tryz.prog 103 #[.agg #[.int .i64 x.1.g, .int .i64 x.1.r, .string x.1.l, .int .i64 x.1.n, .int .i64 x.1.i, .string x.2], .pointer (some ⟨c, 0, none⟩)] W fun e w' =>
  ∃ v', e = .returned (.tuple #[]) ∧ Boxed w' c 22 v' ∧ w'.ownsRow base 53 6 v' (n + 1) (xs ++ elV x) ∧ RowKeep c v W w' := by
 have ET := Lib.hid elT
 have bA := below_new W (.cells #[.int .i64 x.1.g, .int .i64 x.1.r, .string x.1.l, .int .i64 x.1.n, .int .i64 x.1.i, .string x.2] 53)
 have c1 := boxStays hc bA
 have o1 := own_later ho bA (Nat.le_refl _)
 go_enter Tryz.func103, Tryz.ntmps103
 go_upto_region 1 with (fail)
 have xA := heap_alloc_new W (.cells #[.int .i64 x.1.g, .int .i64 x.1.r, .string x.1.l, .int .i64 x.1.n, .int .i64 x.1.i, .string x.2] 53)
 generalize W.alloc (.cells #[.int .i64 x.1.g, .int .i64 x.1.r, .string x.1.l, .int .i64 x.1.n, .int .i64 x.1.i, .string x.2] 53) = w1 at *
 have k0 := cell_of_row _ _ 0 _ _ _ xA
 have k1 := cell_of_row _ _ 1 _ _ _ xA
 have k2 := cell_of_row _ _ 2 _ _ _ xA
 have k3 := cell_of_row _ _ 3 _ _ _ xA
 have k4 := cell_of_row _ _ 4 _ _ _ xA
 have k5 := cell_of_row _ _ 5 _ _ _ xA
 have kc := cell_of_one c1
 have O1 := Lib.hid o1
 have C1 : Hid (Boxed w1 c 22 v) := Lib.hid c1
 have BA := Lib.hid bA
 have HBS : Hid (base ≤ w1.heap.size) := Lib.hid (Nat.le_trans hb bA.size)
 have hcs : c < w1.heap.size := (Array.getElem?_eq_some_iff.1 c1).1
 clear xA bA c1 o1 hc ho
 go_wp2_with (at_builtin; go_must (refine wpList_app rfl _ _ 22 22 rfl base 53 _ 6 64 ET.out v n xs rfl (O1.out.alloc _) _ 1 (elV x) rfl ((CellsAt.new w1 53 (0, 0) (elV x)).srcN rfl (fun u hu => elsV_one [x] u (by simpa [elsV] using hu)) Tryz.underlying22 1 (by decide)) (by omega) (by omega) (by have := HBS.out; simp; omega) ?_); go_must (intro v6 w6 hown hgr hbel _; obtain ⟨a6, cp6, hv6, _⟩ := own_slice hown; subst hv6; have c6 : Boxed w6 c 22 v := (C1.out.alloc _).kept hgr (Boxed.not_row C1.out (by decide) O1.out)); have kc6 := cell_of_one c6; have fc6 := frozen_of_row _ c 0 _ _ c6)
 have V6 : Hid (Boxed w6 c 22 v) := Lib.hid c6
 have OW6 := Lib.hid hown
 have GR := Lib.hid hgr
 clear hown hgr hbel c6 kc6 fc6 kc k0 k1 k2 k3 k4 k5
 go_end0
 have hne : some c ≠ (Value.slice a6 (n + 1) cp6).ownBlock := Boxed.not_row V6.out (by decide) OW6.out
 refine ⟨.slice a6 (n + 1) cp6, rfl, Boxed.set _ V6.out, OW6.out.kept (grownBy_setCell' w6 c _) (.inr hne.symm), RowKeep.after BA.out ⟨?_, ?_, ?_, ?_, fun k h1 h2 h3 => ?_⟩⟩
 · exact GR.out.os
 · exact GR.out.tape
 · exact GR.out.output
 · have := GR.out.size; simp [World.setCell] at this ⊢; omega
 · refine (Below.heap_setCell _ _ _ _ (by simpa using h2)).trans ((GR.out.block k (by simp; omega) (fun e => h3 e.symm)).trans ?_)
   exact (below_new w1 _).block k h1
def TwI (H : List (Nat × Obj)) (c B : Nat) (w : World) (pre : List (ByteArray × ByteArray)) (W : World) : Prop :=
 (∀ p ∈ pre, goodT p = true) ∧ (∃ v, Boxed W c 22 v ∧ W.ownsRow B 53 6 v pre.length (elsV (pre.map decT)) ∧ True) ∧ Facts H W ∧ Below w.heap.size w W
theorem twI_own {H : List (Nat × Obj)} {c B : Nat} {w : World} {M : Nat} (hH : ∀ p ∈ H, p.1 < M) (hw : w.heap.size ≤ M) : OwnFrom M (TwI H c B w) := by
 rintro pre A A' row ⟨h1, h2, h3, h4⟩ hg hr
 exact ⟨h1, (holdsRow_own B c _ _ 6 (fun pre : List (ByteArray × ByteArray) => pre.length) (fun pre => elsV (pre.map decT)) (fun _ _ => True)).from M pre A A' row h2 hg hr, facts_own (β := Unit) H M hH () A A' row h3 hg hr, ownFrom_below (β := Unit) (Nat.le_refl _) hw () A A' row h4 hg hr⟩
def TwX (r1 r2 : Nat) (w : World) (pre : List (ByteArray × ByteArray)) (W : World) : Prop :=
 (∃ p ∈ pre, goodT p = false) ∧ Boxed W r1 22 (.slice none 0 0) ∧ Boxed W r2 4 (.bool false) ∧ Below w.heap.size w W
theorem twX_own {r1 r2 : Nat} {w : World} {M : Nat} (h1 : r1 < M) (h2 : r2 < M) (hw : w.heap.size ≤ M) : OwnFrom M (TwX r1 r2 w) := by
 rintro pre A A' row ⟨g1, g2, g3, g4⟩ hg hr
 exact ⟨g1, own_block (β := Unit) h1 () A A' row g2 hg hr, own_block (β := Unit) h2 () A A' row g3 hg hr, ownFrom_below (β := Unit) (Nat.le_refl _) hw () A A' row g4 hg hr⟩
set_option maxRecDepth 100000 in
set_option maxHeartbeats 4000000 in
theorem ts_own (tr : Tr ByteArray) (w : World) (h : AtS w tr) (hz : sz tr ≤ 100000) (hk : ∀ p ∈ items tr, p.1.size ≤ 70368744177663) :
 Calls Tryz.prog 60 #[.agg #[.pointer (pa tr)]] w fun e w' =>
  ∃ v b, e = .returned (.tuple #[v, .bool b]) ∧ Below w.heap.size w w' ∧
   ((b = true ∧ (∀ p ∈ items tr, goodT p = true) ∧ w'.ownsRow w.heap.size 53 6 v (items tr).length (elsV ((items tr).map decT))) ∨
    (b = false ∧ v = .slice none 0 0 ∧ ∃ p ∈ items tr, goodT p = false)) := by
 obtain ⟨z, hz0⟩ : ∃ z, w.heap.size = z := ⟨_, rfl⟩
 have HT := Lib.hid h
 have HK := Lib.hid hk
 clear h hk
 refine (callsIn_wide (n := 6)).1 ?_
 refine callsIn_of_wp_marks Tryz.func60 rfl trivial ?_ rfl
 simp only [Tryz.ntmps60, List.size_toArray, List.length_cons, List.length_nil, Nat.reduceAdd, Nat.reduceSub, Array.replicate_succ, Array.replicate_zero, List.push_toArray, List.append_toArray, List.nil_append, List.cons_append]
 refine wpIn_wide.2 ?_
 go_wp2_with fail
 obtain ⟨w3, hw3⟩ : ∃ W, allocs w [.cells #[.pointer (pa tr)] 27, .cells #[.slice none 0 0] 22, .cells #[.bool false] 4, .cells #[.slice none 0 0] 22, .cells #[.func (.func 103) #[] #[.pointer (some ⟨z + 3, 0, none⟩)]] 157] = W := ⟨_, rfl⟩
 rw [show ((((w.alloc (.cells #[.pointer (pa tr)] 27)).alloc (.cells #[.slice none 0 0] 22)).alloc (.cells #[.bool false] 4)).alloc (.cells #[.slice none 0 0] 22)).alloc (.cells #[.func (.func 103) #[] #[.pointer (some ⟨z + 3, 0, none⟩)]] 157) = w3 from hw3]
 have hb3 : Below w.heap.size w w3 := by rw [← hw3]; exact allocs_below _ _
 have hx3 : ∀ i ob, [Obj.cells #[.pointer (pa tr)] 27, .cells #[.slice none 0 0] 22, .cells #[.bool false] 4, .cells #[.slice none 0 0] 22, .cells #[.func (.func 103) #[] #[.pointer (some ⟨z + 3, 0, none⟩)]] 157][i]? = some ob → w3.heap[z + i]? = some ob := fun i ob h => by have := allocs_get _ w i ob h; rw [hw3, hz0] at this; exact this
 have F3 : Hid (Facts [(z + 1, .cells #[.slice none 0 0] 22 (0, 0)), (z + 2, .cells #[.bool false] 4 (0, 0)), (z + 4, .cells #[.func (.func 103) #[] #[.pointer (some ⟨z + 3, 0, none⟩)]] 157 (0, 0))] w3) := Lib.hid (fun p hp => by
  simp only [List.mem_cons, List.not_mem_nil, or_false] at hp
  rcases hp with rfl | rfl | rfl
  · exact hx3 1 _ rfl
  · exact hx3 2 _ rfl
  · exact hx3 4 _ rfl)
 have Y3 : Hid (Boxed w3 (z + 3) 22 (.slice none 0 0)) := Lib.hid (hx3 3 _ rfl)
 have B3 := Lib.hid hb3
 have hz3 : z + 5 ≤ w3.heap.size := by have := (Array.getElem?_eq_some_iff.1 (hx3 4 _ rfl)).1; omega
 have q0 := cell_of_one (hx3 0 _ rfl)
 clear hb3 hx3 hw3
 go_wp2_with fail
 refine (pm_MAllS tr w3).mono ?_
 rintro e w5 ⟨kb, mb, rfl, hkb, hmb, hbk, hbm, hb⟩
 have hT5 := HT.out.below (B3.out.trans (hb.mono B3.out.size)) rfl
 have hF5 := F3.out.below hb
 have hY5 := boxStays Y3.out hb
 have hW5 : Below w.heap.size w w5 := B3.out.trans (hb.mono B3.out.size)
 have hz5 : z + 5 ≤ w5.heap.size := by have := hb.size; omega
 obtain ⟨H, hH⟩ : ∃ H : List (Nat × Obj), [(z + 1, .cells #[.slice none 0 0] 22 (0, 0)), (z + 2, .cells #[.bool false] 4 (0, 0)), (z + 4, .cells #[.func (.func 103) #[] #[.pointer (some ⟨z + 3, 0, none⟩)]] 157 (0, 0))] = H := ⟨_, rfl⟩
 have hHz : ∀ p ∈ H, p.1 < z + 5 ∧ p.1 ≠ z + 3 := by
  intro p hp
  rw [← hH] at hp
  simp only [List.mem_cons, List.not_mem_nil, or_false] at hp
  rcases hp with rfl | rfl | rfl <;> simp
 have hHm : (z + 1, Obj.cells #[.slice none 0 0] 22 (0, 0)) ∈ H ∧ (z + 2, Obj.cells #[.bool false] 4 (0, 0)) ∈ H ∧ (z + 4, Obj.cells #[.func (.func 103) #[] #[.pointer (some ⟨z + 3, 0, none⟩)]] 157 (0, 0)) ∈ H := by rw [← hH]; simp
 have hSlt : ∀ k, (k = kb ∨ k ∈ blocks tr) → k < w5.heap.size := fun k hk => by
  rcases hk with rfl | hk
  · exact (Array.getElem?_eq_some_iff.1 hbk).1
  · exact hT5.lt k hk
 have hSB : ∀ k, (k = kb ∨ k ∈ blocks tr) → k < w5.heap.size ∧ k ≠ z + 1 ∧ k ≠ z + 2 ∧ k ≠ z + 3 := fun k hk => ⟨hSlt k hk, by
  rcases hk with rfl | hk
  · omega
  · have := HT.out.lt k hk; omega⟩
 have HIter := pm_from_iterS 5 ⟨#[]⟩ tr kb mb w5 (fun k => k = kb ∨ k ∈ blocks tr) (fun x => x = 53) hbk hbm hT5 (.inl rfl) (fun k hk => .inr hk) hSlt (by decide) (by decide)
 rw [fromL_all] at HIter
 have r5 : TwI H (z + 3) w5.heap.size w [] w5 := ⟨fun p hp => (by cases hp), ⟨_, hY5, World.ownsRow_nil _ _ _ _, trivial⟩, by rw [← hH]; exact hF5, hW5⟩
 have OWN : ∀ B, w5.heap.size ≤ B → OwnFrom B (TwI H (z + 3) w5.heap.size w) := fun B hB => twI_own (fun p hp => by have := (hHz p hp).1; omega) (by omega)
 clear hT5 hF5 hY5 hW5 hb hbk hbm q0
 go_wp2_with fail
 refine (wpIn_wide (n := 6)).1 ?_
 have HH := Lib.hid hHm
 clear F3 Y3 B3 hH hHm
 refine range_law2 (n := 6) rfl (enters_of Tryz.func141 (by kernel_rfl) rfl) HIter (by omega) KeepE.trans (fun W o o' _ _ => KeepE.put W _ o' (by omega) (fun k hk => by have := hSlt k hk; omega)) (fun x => rfl) (fun pre => (by rintro _ _ _ _ h _ _; exact h)) ?_ (TwI H (z + 3) w5.heap.size w) (fun c pre W => c = .ret ∧ TwX (z + 1) (z + 2) w pre W) (fun xs W => xs = items tr ∧ TwI H (z + 3) w5.heap.size w xs W) (OWN _ (Nat.le_refl _)) ?_ ?_ ?_ r5
  (fun pre q a' W => TwI H (z + 3) w5.heap.size w pre W ∧ pre ++ [q] <+: items tr ∧ a' = { tmps := #[.agg #[.pointer (pa tr)], .pointer (some ⟨z, 0, none⟩), .pointer (some ⟨z + 1, 0, none⟩), .pointer (some ⟨z + 2, 0, none⟩), .pointer (some ⟨z + 3, 0, none⟩), .pointer (some ⟨z + 4, 0, none⟩), .string q.1, .string q.2, undef, undef, .func (.func 103) #[] #[.pointer (some ⟨z + 3, 0, none⟩)], .agg #[.pointer (pa tr)], .func (.func 141) #[] #[.pointer (some ⟨kb, 0, none⟩), .pointer (some ⟨mb, 0, none⟩)], .string q.1, .string q.2, undef, undef, undef, undef, undef, undef, undef, undef, undef, undef, undef, undef, undef, undef, undef, undef, undef], defers := [] }) ?_ ?assign ?body ?done ?stop
 · rintro W1 _ xs A B ⟨_, rfl⟩ k o _ ho _; exact ho
 · rintro c xs A A' row ⟨h1, h2⟩ hg hr
   exact ⟨h1, twX_own (by omega) (by omega) (by omega) xs A A' row h2 hg hr⟩
 · rintro xs A A' row ⟨h1, h2⟩ hg hr
   exact ⟨h1, OWN _ (Nat.le_refl _) xs A A' row h2 hg hr⟩
 · rintro W1 _ xs A B h ⟨h1, rfl⟩; exact ⟨h1, h⟩
 · rintro q a' pre A A' row ⟨h1, h2, h3⟩ hg hr
   exact ⟨OWN _ (Nat.le_refl _) pre A A' row h1 hg hr, h2, h3⟩
 case assign =>
  intro l pre q W K hi hx hsz hK
  have HI := Lib.hid hi
  clear hi
  simp only [encKVS, List.zip_toArray, List.zip_cons_cons, List.zip_nil_right, List.foldl_toArray, List.foldl_cons, List.foldl_nil]
  gi_wp2
  exact hK _ _ ⟨Nat.le_refl _, fun _ _ _ h _ => h⟩ (KeepE.refl _) hsz ⟨HI.out, hx, rfl⟩
 case body =>
  rintro l pre ⟨k, v⟩ a' W ⟨⟨h1, ⟨u, h2, h3, _⟩, h4, h5⟩, hp, rfl⟩ hsz
  have hmem : (k, v) ∈ items tr := hp.subset (by simp)
  have hks := HK.out _ hmem
  have hpl : pre.length + 1 ≤ sz tr := by have := hp.length_le; rw [sz_items] at this; simpa using this
  have G9 := Lib.hid h1
  have Y9 := Lib.hid h2
  have R9 := Lib.hid h3
  have F9 := Lib.hid h4
  have B9 := Lib.hid h5
  have hSW : ∀ k', (k' = kb ∨ k' ∈ blocks tr) → k' < W.heap.size := fun k' hk' => Nat.lt_of_lt_of_le (hSlt k' hk') hsz
  have BAD : Hid (∀ (X : World), Below W.heap.size W X → goodT (k, v) = false →
   KeepsFrom w5.heap.size W ((X.setCell ⟨z + 1, 0, none⟩ (.slice none 0 0)).setCell ⟨z + 2, 0, none⟩ (.bool false)) ∧ KeepE (w5.heap.size + 2) (fun k => k = kb ∨ k ∈ blocks tr) (fun x => x = 53) W ((X.setCell ⟨z + 1, 0, none⟩ (.slice none 0 0)).setCell ⟨z + 2, 0, none⟩ (.bool false)) ∧ TwX (z + 1) (z + 2) w (pre ++ [(k, v)]) ((X.setCell ⟨z + 1, 0, none⟩ (.slice none 0 0)).setCell ⟨z + 2, 0, none⟩ (.bool false))) := Lib.hid (fun X hX hbad => by
   have f1 := F9.out.below hX _ HH.out.1
   have f2 := F9.out.below hX _ HH.out.2.1
   have g1 : Boxed (X.setCell ⟨z + 1, 0, none⟩ (.slice none 0 0)) (z + 1) 22 (.slice none 0 0) := Boxed.set _ f1
   have g2 : Boxed (X.setCell ⟨z + 1, 0, none⟩ (.slice none 0 0)) (z + 2) 4 (.bool false) := (Below.heap_setCell _ _ _ _ (by simp)).trans f2
   have g3 : Boxed ((X.setCell ⟨z + 1, 0, none⟩ (.slice none 0 0)).setCell ⟨z + 2, 0, none⟩ (.bool false)) (z + 1) 22 (.slice none 0 0) := (Below.heap_setCell _ _ _ _ (by simp)).trans g1
   have g4 : Boxed ((X.setCell ⟨z + 1, 0, none⟩ (.slice none 0 0)).setCell ⟨z + 2, 0, none⟩ (.bool false)) (z + 2) 4 (.bool false) := Boxed.set _ g2
   refine ⟨⟨by simpa [World.setCell] using hX.size, fun k' o2 hk' ho2 hc => (Below.heap_setCell _ _ _ _ (by simp; omega)).trans ((Below.heap_setCell _ _ _ _ (by simp; omega)).trans ((hX.block k' (Array.getElem?_eq_some_iff.1 ho2).1).trans ho2))⟩,
    ((KeepE.below hX hSW).trans (KeepE.setCell X (z + 1) 0 _ (by omega) (fun h => (hSB _ h).2.1 rfl))).trans (KeepE.setCell _ (z + 2) 0 _ (by omega) (fun h => (hSB _ h).2.2.1 rfl)),
    ⟨(k, v), by simp, hbad⟩, g3, g4, ?_⟩
   exact ((B9.out.trans (hX.mono B9.out.size)).setCell (p := ⟨z + 1, 0, none⟩) (by simp; omega) _).setCell (p := ⟨z + 2, 0, none⟩) (by simp; omega) _)
  clear HIter r5 OWN h1 h2 h3 h4 h5 hp hmem
  gi_wp2
  refine ⟨trivial, ?_⟩
  refine (CallsIn.inRound l (callsIn_wide.2 (ts_OfKey k W hks))).mono ?_
  rintro e W2 ⟨rfl, hb⟩
  have bb : Below W.heap.size W W2 := hb
  have BB := Lib.hid bb
  rcases hok : ofT k with _ | x
  · have BD := Lib.hid (goodT_none (v := v) hok)
    clear hok hb bb
    simp only [elO]
    have bS := below_new W2 (.cells #[.int .i64 0, .int .i64 0, .string ⟨#[]⟩, .int .i64 0, .int .i64 0, .string ⟨#[]⟩] 53)
    have xS := heap_alloc_new W2 (.cells #[.int .i64 0, .int .i64 0, .string ⟨#[]⟩, .int .i64 0, .int .i64 0, .string ⟨#[]⟩] 53)
    have BS : Hid (Below W.heap.size W (W2.alloc (.cells #[.int .i64 0, .int .i64 0, .string ⟨#[]⟩, .int .i64 0, .int .i64 0, .string ⟨#[]⟩] 53))) := Lib.hid (BB.out.trans (bS.mono BB.out.size))
    have q5 := cell_of_row _ _ 5 _ _ _ xS
    have f1 := F9.out.below BS.out _ HH.out.1
    have f2 := F9.out.below BS.out _ HH.out.2.1
    have c1 := cell_of_one f1
    have d1 := frozen_of_row _ (z + 1) 0 _ _ f1
    have c2 := cell_of_one f2
    have d2 := frozen_of_row _ (z + 2) 0 _ _ f2
    have FIN := Lib.hid (BAD.out _ BS.out BD.out)
    clear bS xS f1 f2
    gi_wp2
    exact ⟨FIN.out.1, FIN.out.2.1, rfl, FIN.out.2.2⟩
  · obtain ⟨hg, hd⟩ := goodT_some (v := v) hok
    clear hok hb bb
    simp only [elO]
    by_cases hv : x.2 = v
    · have GD : Hid (goodT (k, v) = true) := Lib.hid (by rw [hg]; exact decide_eq_true hv)
      have DC := Lib.hid hd
      have hne : (x.2.toList == v.toList) = true := by rw [Pm.eq_iff]; exact decide_eq_true hv
      clear hg hd hv
      have bS := below_new W2 (.cells #[.int .i64 x.1.g, .int .i64 x.1.r, .string x.1.l, .int .i64 x.1.n, .int .i64 x.1.i, .string x.2] 53)
      have xS := heap_alloc_new W2 (.cells #[.int .i64 x.1.g, .int .i64 x.1.r, .string x.1.l, .int .i64 x.1.n, .int .i64 x.1.i, .string x.2] 53)
      have BS : Hid (Below W.heap.size W (W2.alloc (.cells #[.int .i64 x.1.g, .int .i64 x.1.r, .string x.1.l, .int .i64 x.1.n, .int .i64 x.1.i, .string x.2] 53))) := Lib.hid (BB.out.trans (bS.mono BB.out.size))
      have q0 := cell_of_row _ _ 0 _ _ _ xS
      have q1 := cell_of_row _ _ 1 _ _ _ xS
      have q2 := cell_of_row _ _ 2 _ _ _ xS
      have q3 := cell_of_row _ _ 3 _ _ _ xS
      have q4 := cell_of_row _ _ 4 _ _ _ xS
      have q5 := cell_of_row _ _ 5 _ _ _ xS
      have qf := cell_of_one (F9.out.below BS.out _ HH.out.2.2)
      clear bS xS
      gi_wp2
      refine ⟨trivial, ?_⟩
      refine (CallsIn.inRound l (callsIn_wide.2 (ts_own1 x (z + 3) w5.heap.size pre.length u _ _ (boxStays Y9.out BS.out) (own_later R9.out BS.out (Nat.le_refl _)) (Nat.le_trans hsz BS.out.size) (by omega) (by omega)))).mono ?_
      rintro e W4 ⟨u', rfl, hY4, hR4, hRK⟩
      have RK := RowKeep.after BS.out hRK
      have hrow : W4.ownsRow w5.heap.size 53 6 u' (pre ++ [(k, v)]).length (elsV ((pre ++ [(k, v)]).map decT)) := by
       have e1 : elsV ((pre ++ [(k, v)]).map decT) = elsV (pre.map decT) ++ elV x := by simp [elsV, DC.out]
       rw [e1, List.length_append, List.length_singleton]
       exact hR4
      have hfin : KeepsFrom w5.heap.size W W4 ∧ KeepE (w5.heap.size + 2) (fun k => k = kb ∨ k ∈ blocks tr) (fun x => x = 53) W W4 ∧ TwI H (z + 3) w5.heap.size w (pre ++ [(k, v)]) W4 :=
       ⟨RK.from Y9.out R9.out _, RowKeep.keepE (t := 53) (u := u) RK R9.out (fun k hk => ⟨(hSB k hk).1, (hSB k hk).2.2.2⟩) hSW (by omega), fun p hp => by
        rcases List.mem_append.1 hp with hp | hp
        · exact G9.out p hp
        · rw [List.mem_singleton.1 hp]; exact GD.out, ⟨u', hY4, hrow, trivial⟩, RK.facts F9.out (fun p hp => (hHz p hp).2) R9.out (fun p hp => by have := (hHz p hp).1; omega), B9.out.trans (RK.below (by omega) R9.out (by omega) B9.out.size)⟩
      have FIN := Lib.hid hfin
      clear RK hRK hY4 hR4 hrow hfin
      gi_wp2
      exact FIN.out
    · have BD : Hid (goodT (k, v) = false) := Lib.hid (by rw [hg]; exact decide_eq_false hv)
      have hne : (x.2.toList == v.toList) = false := by rw [Pm.eq_iff]; exact decide_eq_false hv
      clear hg hd hv
      have bS := below_new W2 (.cells #[.int .i64 x.1.g, .int .i64 x.1.r, .string x.1.l, .int .i64 x.1.n, .int .i64 x.1.i, .string x.2] 53)
      have xS := heap_alloc_new W2 (.cells #[.int .i64 x.1.g, .int .i64 x.1.r, .string x.1.l, .int .i64 x.1.n, .int .i64 x.1.i, .string x.2] 53)
      have BS : Hid (Below W.heap.size W (W2.alloc (.cells #[.int .i64 x.1.g, .int .i64 x.1.r, .string x.1.l, .int .i64 x.1.n, .int .i64 x.1.i, .string x.2] 53))) := Lib.hid (BB.out.trans (bS.mono BB.out.size))
      have q5 := cell_of_row _ _ 5 _ _ _ xS
      have f1 := F9.out.below BS.out _ HH.out.1
      have f2 := F9.out.below BS.out _ HH.out.2.1
      have c1 := cell_of_one f1
      have d1 := frozen_of_row _ (z + 1) 0 _ _ f1
      have c2 := cell_of_one f2
      have d2 := frozen_of_row _ (z + 2) 0 _ _ f2
      have FIN := Lib.hid (BAD.out _ BS.out BD.out)
      clear bS xS f1 f2
      gi_wp2
      exact ⟨FIN.out.1, FIN.out.2.1, rfl, FIN.out.2.2⟩
 case done =>
  rintro D xs W1 hD ⟨rfl, h1, ⟨u, h2, h3, _⟩, h4, h5⟩ hK
  have R9 := Lib.hid h3
  have G9 := Lib.hid h1
  obtain ⟨a6, cp6, hv6, _⟩ := own_slice h3
  subst hv6
  have F9 := Lib.hid h4
  have B9 := Lib.hid h5
  have Y9 := Lib.hid h2
  have HKD := Lib.hid hK
  have f1 := h4 _ HH.out.1
  have f2 := h4 _ HH.out.2.1
  clear HIter r5 OWN h1 h2 h3 h4 h5 hK
  simp only [Exit.inBlock]
  go_upto_region 10 with (fail)
  simp only [Nat.add_assoc, Nat.reduceAdd]
  obtain ⟨nn, hnn⟩ : ∃ n, (items tr).length = n := ⟨_, rfl⟩
  rw [hnn] at Y9 R9
  have HNN := Lib.hid hnn
  clear hnn
  have k0 := cell_of_one Y9.out
  have c1 := cell_of_one f1
  have d1 := frozen_of_row _ (z + 1) 0 _ _ f1
  have g1 : Boxed (W1.setCell ⟨z + 1, 0, none⟩ (.slice a6 nn cp6)) (z + 1) 22 (.slice a6 nn cp6) := Boxed.set _ f1
  have g2 : Boxed (W1.setCell ⟨z + 1, 0, none⟩ (.slice a6 nn cp6)) (z + 2) 4 (.bool false) := (Below.heap_setCell _ _ _ _ (by simp)).trans f2
  have c2 := cell_of_one f2
  have d2 := frozen_of_row _ (z + 2) 0 _ _ f2
  have G3 : Hid (Boxed ((W1.setCell ⟨z + 1, 0, none⟩ (.slice a6 nn cp6)).setCell ⟨z + 2, 0, none⟩ (.bool true)) (z + 1) 22 (.slice a6 nn cp6)) := Lib.hid ((Below.heap_setCell _ _ _ _ (by simp)).trans g1)
  have G4 : Hid (Boxed ((W1.setCell ⟨z + 1, 0, none⟩ (.slice a6 nn cp6)).setCell ⟨z + 2, 0, none⟩ (.bool true)) (z + 2) 4 (.bool true)) := Lib.hid (Boxed.set _ g2)
  have BE : Hid (Below w.heap.size w ((W1.setCell ⟨z + 1, 0, none⟩ (.slice a6 nn cp6)).setCell ⟨z + 2, 0, none⟩ (.bool true))) := Lib.hid ((B9.out.setCell (p := ⟨z + 1, 0, none⟩) (by simp; omega) _).setCell (p := ⟨z + 2, 0, none⟩) (by simp; omega) _)
  have HDE : Hid (((W1.setCell ⟨z + 1, 0, none⟩ (.slice a6 nn cp6)).setCell ⟨z + 2, 0, none⟩ (.bool true)).heap[D]? = some (.deferred (some []))) := Lib.hid ((Below.heap_setCell _ _ _ _ (by simp; omega)).trans ((Below.heap_setCell _ _ _ _ (by simp; omega)).trans HKD.out))
  have RR : Hid (((W1.setCell ⟨z + 1, 0, none⟩ (.slice a6 nn cp6)).setCell ⟨z + 2, 0, none⟩ (.bool true)).ownsRow w5.heap.size 53 6 (.slice a6 nn cp6) nn (elsV ((items tr).map decT))) := Lib.hid ((R9.out.kept (grownBy_setCell' W1 (z + 1) (.slice a6 nn cp6)) (.inr (Boxed.not_row f1 (by decide) R9.out).symm)).kept (grownBy_setCell' _ (z + 2) (.bool true)) (.inr (Boxed.not_row g2 (by decide) (R9.out.kept (grownBy_setCell' W1 (z + 1) (.slice a6 nn cp6)) (.inr (Boxed.not_row f1 (by decide) R9.out).symm))).symm))
  clear f1 f2 g1 g2
  go_wp2_with fail
  try rw [Exit.noGoto_ret]
  show LeavesInM _ _ _ _ _ _ (marks [D]) _ _
  refine leaves_marks [D] _ (by simp) (fun p hp => ?_) ?_
  · obtain rfl : p = (D, .deferred (some [])) := by simpa [markF] using hp
    exact HDE.out
  · intro W' e1 e2 e3 e4 e5
    have bW : Below w.heap.size w W' := ⟨e1.trans BE.out.os, e2.trans BE.out.tape, e3.trans BE.out.output, by rw [e4]; exact BE.out.size, fun k hk => (e5 k (by simp; omega)).trans (BE.out.block k hk)⟩
    have y1 := cell_of_one ((e5 (z + 1) (by simp; omega)).trans G3.out)
    have y2 := cell_of_one ((e5 (z + 2) (by simp; omega)).trans G4.out)
    refine ⟨.tuple #[.slice a6 nn cp6, .bool true], by simp [results, Tryz.results60, go_sem, y1, y2], _, .inr ⟨rfl, hz0 ▸ bW, fun a b h => G9.out _ h, ?_⟩⟩
    rw [HNN.out]
    have r1 := RR.out
    refine own_mono (own_grown (row := some D) r1 ⟨e1, e2, e3, Nat.le_of_eq e4.symm, fun k _ hne => e5 k (by simp; exact fun e => hne (by rw [e]))⟩ (fun k hk e => ?_)) (by omega)
    obtain rfl : D = k := Option.some.inj e
    rcases r1.2 with ⟨h9, _⟩ | ⟨g, cap, cur, h9, _, hgb, _⟩
    · rw [h9] at hk; simp [Value.ownBlock] at hk
    · rw [h9] at hk
      obtain rfl : g = D := by simpa [Value.ownBlock] using hk
      rw [HDE.out] at hgb
      cases hgb
 case stop =>
  rintro D c pre W1 hD hSp ⟨rfl, ⟨q, hq1, hq2⟩, h2, h3, h5⟩ hK
  have hq3 := hSp.subset hq1
  have B9 := Lib.hid h5
  have Y9 := Lib.hid h2
  have Z9 := Lib.hid h3
  have HKD := Lib.hid hK
  clear HIter r5 OWN h2 h3 h5 hK
  try simp only [Nat.add_assoc, Nat.reduceAdd]
  gi_wp2
  try rw [Exit.noGoto_ret]
  show LeavesInM _ _ _ _ _ _ (marks [D]) _ _
  refine leaves_marks [D] _ (by simp) (fun p hp => ?_) ?_
  · obtain rfl : p = (D, .deferred (some [])) := by simpa [markF] using hp
    exact HKD.out
  · intro W' e1 e2 e3 e4 e5
    have bW : Below w.heap.size w W' := ⟨e1.trans B9.out.os, e2.trans B9.out.tape, e3.trans B9.out.output, by rw [e4]; exact B9.out.size, fun k hk => (e5 k (by simp; omega)).trans (B9.out.block k hk)⟩
    have y1 := cell_of_one ((e5 (z + 1) (by simp; omega)).trans Y9.out)
    have y2 := cell_of_one ((e5 (z + 2) (by simp; omega)).trans Z9.out)
    exact ⟨.tuple #[.slice none 0 0, .bool false], by simp [results, Tryz.results60, go_sem, y1, y2], _, _, rfl, bW, .inr ⟨rfl, rfl, q, hq3, hq2⟩⟩
end Go.Proofs.YtjlliohjeiclaaaGreatDoor
namespace Go.Proofs.YtjlliohjeiclaaaGreatDoor
open Go.RowKit St Pm
theorem ts_ownB (tr : Tr ByteArray) (w : World) (h : AtS w tr) (hz : sz tr ≤ 100000) (hk : ∀ p ∈ items tr, p.1.size ≤ 70368744177663) :
 Calls Tryz.prog 60 #[.agg #[.pointer (pa tr)]] w fun e w' =>
  ∃ v, e = .returned (.tuple #[v, .bool ((items tr).all goodT)]) ∧ Below w.heap.size w w' ∧ ((items tr).all goodT = true → w'.ownsRow w.heap.size 53 6 v (items tr).length (elsV ((items tr).map decT))) ∧ ((items tr).all goodT = false → v = .slice none 0 0) := by
 refine (ts_own tr w h hz hk).mono ?_
 rintro e w' ⟨v, b, rfl, hb, ⟨rfl, h1, h2⟩ | ⟨rfl, rfl, q, hq, hg⟩⟩
 · have h3 : (items tr).all goodT = true := List.all_eq_true.2 h1
   rw [h3]
   exact ⟨v, rfl, hb, fun _ => h2, fun e => by cases e⟩
 · have h3 : (items tr).all goodT = false := List.all_eq_false.2 ⟨q, hq, by rw [hg]; simp⟩
   rw [h3]
   exact ⟨_, rfl, hb, fun e => (by cases e), fun _ => rfl⟩
theorem ts_May (tr : Tr ByteArray) (w : World) (h : AtS w tr) (hz : sz tr ≤ 100000) (hk : ∀ p ∈ items tr, p.1.size ≤ 70368744177663) :
 Calls Tryz.prog 19 #[.agg #[.pointer (pa tr)]] w fun e w' => e = .returned (.bool ((items tr).all goodT)) ∧ Below w.heap.size w w' := by
 have b1 := below_new w (.cells #[.pointer (pa tr)] 27)
 have C := Lib.hid (ts_ownB tr _ (h.below b1 rfl) hz hk)
 have B1 := Lib.hid b1
 obtain ⟨g, hg⟩ : ∃ g, (items tr).all goodT = g := ⟨_, rfl⟩
 rw [hg] at C ⊢
 clear h hk b1 hg
 go_enter Tryz.func19, Tryz.ntmps19
 go_wp2_with fail
 refine C.out.mono ?_
 rintro e w2 ⟨v, rfl, hb, _⟩
 go_wp2_with fail
 go_ret
 exact ⟨rfl, B1.out.trans (hb.mono B1.out.size)⟩
def InsOut (tr : Tr ByteArray) (x : Ev) (w : World) (e : Ending) (w' : World) : Prop :=
 if okV x = true ∧ (items tr).all goodT = true then ∃ t' : Tr ByteArray, PutR w.heap.size (tagK x) x.2 tr t' ∧ e = .returned (.tuple #[.agg #[.pointer (pa t')], .int .i64 0]) ∧ AtS w' t' ∧ Below w.heap.size w w'
 else e = .returned (.tuple #[.agg #[.pointer none], .int .i64 2]) ∧ Below w.heap.size w w'
set_option maxRecDepth 100000 in
set_option maxHeartbeats 4000000 in
theorem ts_Insert (tr : Tr ByteArray) (s : Sv) (x : ByteArray) (w : World) (h : AtS w tr) (hz : sz tr ≤ 100000) (hk : ∀ p ∈ items tr, p.1.size ≤ 70368744177663) (hl : s.l.size ≤ 9223372036854775807) (hG : Glob w) :
 Calls Tryz.prog 21 #[.agg #[.pointer (pa tr)], .agg #[.int .i64 s.g, .int .i64 s.r, .string s.l, .int .i64 s.n, .int .i64 s.i], .string x] w (InsOut tr (s, x) w) := by
 have O1 : Hid (∀ e w', okV (s, x) = true → (items tr).all goodT = true → ∀ t' : Tr ByteArray, PutR w.heap.size (tagK (s, x)) x tr t' → e = .returned (.tuple #[.agg #[.pointer (pa t')], .int .i64 0]) → AtS w' t' → Below w.heap.size w w' → InsOut tr (s, x) w e w') := Lib.hid (fun e w' h1 h2 t' h3 h4 h5 h6 => by unfold InsOut; rw [if_pos ⟨h1, h2⟩]; exact ⟨t', h3, h4, h5, h6⟩)
 have O2 : Hid (∀ e w', (okV (s, x) = false ∨ (items tr).all goodT = false) → e = .returned (.tuple #[.agg #[.pointer none], .int .i64 2]) → Below w.heap.size w w' → InsOut tr (s, x) w e w') := Lib.hid (fun e w' h1 h4 h6 => by unfold InsOut; rw [if_neg (by rintro ⟨a, b⟩; rcases h1 with h1 | h1; rw [a] at h1; cases h1; rw [b] at h1; cases h1)]; exact ⟨h4, h6⟩)
 have HT := Lib.hid h
 have HG := Lib.hid hG
 have HK := Lib.hid hk
 obtain ⟨g, hg⟩ : ∃ g, (items tr).all goodT = g := ⟨_, rfl⟩
 obtain ⟨ok, hok⟩ : ∃ g, okV (s, x) = g := ⟨_, rfl⟩
 rw [hg, hok] at O1 O2
 have GG := Lib.hid hg
 have GO := Lib.hid hok
 clear h hk hG hg hok
 have HC : Hid (Chain [w] w) := Lib.hid (Chain.one w)
 go_enter Tryz.func21, Tryz.ntmps21
 go_upto_region 1 with (fail)
 obtain ⟨y, hy⟩ : ∃ c, w.heap.size = c := ⟨_, rfl⟩
 try rw [hy]
 obtain ⟨w1, hw1⟩ : ∃ X, allocs w [.cells #[.pointer (pa tr)] 27, .cells #[.int .i64 s.g, .int .i64 s.r, .string s.l, .int .i64 s.n, .int .i64 s.i] 43, .cells #[.pointer none] 27] = X := ⟨_, rfl⟩
 rw [show ((w.alloc (.cells #[.pointer (pa tr)] 27)).alloc (.cells #[.int .i64 s.g, .int .i64 s.r, .string s.l, .int .i64 s.n, .int .i64 s.i] 43)).alloc (.cells #[.pointer none] 27) = w1 from hw1]
 have hb : Below w.heap.size w w1 := by rw [← hw1]; exact allocs_below _ _
 have HM : Hid (w1.heap[y]? = some (.cells #[.pointer (pa tr)] 27 (0, 0))) := Lib.hid (by have := allocs_get [.cells #[.pointer (pa tr)] 27, .cells #[.int .i64 s.g, .int .i64 s.r, .string s.l, .int .i64 s.n, .int .i64 s.i] 43, .cells #[.pointer none] 27] w 0 _ rfl; rw [hw1, hy] at this; exact this)
 have HS : Hid (w1.heap[y + 1]? = some (.cells #[.int .i64 s.g, .int .i64 s.r, .string s.l, .int .i64 s.n, .int .i64 s.i] 43 (0, 0))) := Lib.hid (by have := allocs_get [.cells #[.pointer (pa tr)] 27, .cells #[.int .i64 s.g, .int .i64 s.r, .string s.l, .int .i64 s.n, .int .i64 s.i] 43, .cells #[.pointer none] 27] w 1 _ rfl; rw [hw1, hy] at this; exact this)
 have HR : Hid (w1.heap[y + 1 + 1]? = some (.cells #[.pointer none] 27 (0, 0))) := Lib.hid (by have := allocs_get [.cells #[.pointer (pa tr)] 27, .cells #[.int .i64 s.g, .int .i64 s.r, .string s.l, .int .i64 s.n, .int .i64 s.i] 43, .cells #[.pointer none] 27] w 2 _ rfl; rw [hw1, hy] at this; exact this)
 have Sy : Hid (w.heap.size = y) := Lib.hid hy
 replace HC := Lib.hid (HC.out.push hb)
 clear hb hw1 hy
 have kS0 := cell_of_row _ _ 0 _ _ _ HS.out
 have kS1 := cell_of_row _ _ 1 _ _ _ HS.out
 have kS2 := cell_of_row _ _ 2 _ _ _ HS.out
 have kS3 := cell_of_row _ _ 3 _ _ _ HS.out
 have kS4 := cell_of_row _ _ 4 _ _ _ HS.out
 go_wp2_with fail
 refine (ts_Key x s _ hl (HG.out.below (HC.out.to w (by simp)))).mono ?_
 rintro e w2 ⟨rfl, hb⟩
 clear kS0 kS1 kS2 kS3 kS4
 replace HC := Lib.hid (HC.out.push hb)
 clear hb
 rw [GO.out]
 cases ok
 case false =>
  have RF := Lib.hid (boxStays HR.out (HC.out.to w1 (by simp)))
  have BF := Lib.hid (HC.out.to w (by simp))
  have hzs := RF.out
  have c1 := cell_of_one RF.out
  have d1 := frozen_of_row _ (y + 1 + 1) 0 _ _ RF.out
  simp only [Bool.false_eq_true, if_false]
  go_wp2_with fail
  have k1 := cell_of_one (heap_setCell_same w2 (y + 1 + 1) 0 _ _ (.pointer none) RF.out)
  refine bodyPost_ret (v := .tuple #[.agg #[.pointer none], .int .i64 2]) (by simp [results, Tryz.results21, go_sem, k1]) rfl ?_
  exact O2.out _ _ (.inl (by simp)) rfl (BF.out.setCell (p := ⟨y + 1 + 1, 0, none⟩) (by have := Sy.out; simp; omega) _)
 case true =>
  simp only [if_true]
  have kM0 := cell_of_one (boxStays HM.out (HC.out.to w1 (by simp)))
  go_wp2_with fail
  refine (ts_May tr _ (HT.out.below (HC.out.to w (by simp)) rfl) hz HK.out).mono ?_
  rintro e w3 ⟨rfl, hb⟩
  clear kM0
  replace HC := Lib.hid (HC.out.push hb)
  clear hb
  rw [GG.out]
  cases g
  case false =>
   have RF := Lib.hid (boxStays HR.out (HC.out.to w1 (by simp)))
   have BF := Lib.hid (HC.out.to w (by simp))
   have c1 := cell_of_one RF.out
   have d1 := frozen_of_row _ (y + 1 + 1) 0 _ _ RF.out
   go_wp2_with fail
   have k1 := cell_of_one (heap_setCell_same w3 (y + 1 + 1) 0 _ _ (.pointer none) RF.out)
   refine bodyPost_ret (v := .tuple #[.agg #[.pointer none], .int .i64 2]) (by simp [results, Tryz.results21, go_sem, k1]) rfl ?_
   exact O2.out _ _ (.inr (by simp)) rfl (BF.out.setCell (p := ⟨y + 1 + 1, 0, none⟩) (by have := Sy.out; simp; omega) _)
  case true =>
   have kM0 := cell_of_one (boxStays HM.out (HC.out.to w1 (by simp)))
   go_wp2_with fail
   have hN : w.heap.size ≤ w3.heap.size := (HC.out.to w (by simp)).size
   refine (pm_MPutS tr (tagK (s, x)) x w.heap.size _ hN (HT.out.below (HC.out.to w (by simp)) rfl) (by omega)).mono ?_
   rintro e w4 ⟨t', hP, rfl, hA, hb⟩
   clear kM0
   replace HC := Lib.hid (HC.out.push hb)
   clear hb
   have RF := Lib.hid (boxStays HR.out (HC.out.to w1 (by simp)))
   have BF := Lib.hid (HC.out.to w (by simp))
   have HP := Lib.hid hP
   have HA := Lib.hid hA
   clear hP hA
   have c1 := cell_of_one RF.out
   have d1 := frozen_of_row _ (y + 1 + 1) 0 _ _ RF.out
   go_wp2_with fail
   have k1 := cell_of_one (heap_setCell_same w4 (y + 1 + 1) 0 _ _ (.pointer (pa t')) RF.out)
   refine bodyPost_ret (v := .tuple #[.agg #[.pointer (pa t')], .int .i64 0]) (by simp [results, Tryz.results21, go_sem, k1]) rfl ?_
   exact O1.out _ _ (by simp) (by simp) t' HP.out rfl (HA.out.setBox RF.out (by decide) 0 (.pointer (pa t'))) (BF.out.setCell (p := ⟨y + 1 + 1, 0, none⟩) (by have := Sy.out; simp; omega) _)
end Go.Proofs.YtjlliohjeiclaaaGreatDoor
namespace Go.Proofs.YtjlliohjeiclaaaGreatDoor
open Go.RowKit St
def smK (s : Sv) : Value := .agg #[.int .i64 s.g, .int .i64 s.r, .string s.l, .int .i64 s.n, .int .i64 s.i]
def StMap (W : World) (B : Nat) (ps : List (Sv × Int)) : Prop :=
 ∃ (es : Array MapEntry) (clock : Nat), W.heap[B]? = some (.map es clock) ∧ es.toList.map (fun e => (e.key, e.val)) = ps.map fun p => (smK p.1, Value.int .i64 p.2)
theorem StMap.below {W W' : World} {B : Nat} {ps : List (Sv × Int)} (h : StMap W B ps) (hb : Below W.heap.size W W') : StMap W' B ps := by
 obtain ⟨es, c, h1, h2⟩ := h
 exact ⟨es, c, (hb.block B (Array.getElem?_eq_some_iff.1 h1).1).trans h1, h2⟩
theorem StMap.new (w : World) : StMap (w.alloc (.map #[] 0)) w.heap.size [] := ⟨#[], 0, heap_alloc_new w _, rfl⟩
def lookG (ps : List (Sv × Int)) (s : Sv) : Int := match ps.find? (fun p => decide (p.1 = s)) with
 | none => 0
 | some p => p.2
theorem smK_equal (s t : Sv) (w : World) : (Op.equal 43 (smK s) (smK t)).run Tryz.prog w = .ok (decide (s = t)) w := by
 have h := sv_eql s t w
 rw [run_eql_struct] at h
 have e : Op.equal 43 (smK s) (smK t) = Op.equalIn 10000 43 (smK s) (smK t) := rfl
 rw [e]
 unfold smK
 cases hr : (Op.equalIn 10000 43 (.agg #[.int .i64 s.g, .int .i64 s.r, .string s.l, .int .i64 s.n, .int .i64 s.i]) (.agg #[.int .i64 t.g, .int .i64 t.r, .string t.l, .int .i64 t.n, .int .i64 t.i])).run Tryz.prog w with
 | ok b w' =>
  rw [hr] at h
  simp [Result.andThen] at h
  obtain ⟨h1, h2⟩ := h
  rw [h2]
  congr 1
 | halt x w' =>
  rw [hr] at h
  cases h
theorem stFindAsking (w : World) (s : Sv) : ∀ (es : List MapEntry) (ps : List (Sv × Int)) (i : Nat), es.map (fun e => (e.key, e.val)) = ps.map (fun p => (smK p.1, Value.int .i64 p.2)) →
 ((∀ p ∈ ps, p.1 ≠ s) ∧ (Instr.findAsking 43 (smK s) es i).run Tryz.prog w = .ok none w) ∨ ((∃ p ∈ ps, p.1 = s) ∧ ∃ j, (Instr.findAsking 43 (smK s) es i).run Tryz.prog w = .ok (some (j, .int .i64 (lookG ps s))) w)
 | [], ps, i, h => by
  have : ps = [] := by simpa using h.symm
  subst this
  exact .inl ⟨by simp, by simp [Instr.findAsking]⟩
 | e :: es, [], i, h => by simp at h
 | e :: es, p :: ps, i, h => by
  simp only [List.map_cons, List.cons.injEq, Prod.mk.injEq] at h
  obtain ⟨⟨hk, hv⟩, hr⟩ := h
  have he := smK_equal s p.1 w
  by_cases e1 : s = p.1
  · refine .inr ⟨⟨p, by simp, e1.symm⟩, i, ?_⟩
    rw [decide_eq_true e1] at he
    have hl : lookG (p :: ps) s = p.2 := by unfold lookG; rw [List.find?_cons_of_pos (by simp [e1])]
    simp [Instr.findAsking, hk, hv, he, hl]
  · rw [decide_eq_false e1] at he
    have hl : lookG (p :: ps) s = lookG ps s := by unfold lookG; rw [List.find?_cons_of_neg (by simp; exact fun h => e1 h.symm)]
    rcases stFindAsking w s es ps (i + 1) hr with ⟨h1, h2⟩ | ⟨⟨q, h1, h3⟩, j, h2⟩
    · refine .inl ⟨fun q hq => ?_, by simp [Instr.findAsking, hk, he, h2]⟩
      rcases List.mem_cons.1 hq with rfl | hq
      · exact fun h => e1 h.symm
      · exact h1 q hq
    · exact .inr ⟨⟨q, by simp [h1], h3⟩, j, by rw [hl]; simp [Instr.findAsking, hk, he, h2]⟩
theorem stFindKey (w : World) (s : Sv) (es : List MapEntry) (ps : List (Sv × Int)) (h : es.map (fun e => (e.key, e.val)) = ps.map (fun p => (smK p.1, Value.int .i64 p.2))) :
 ((∀ p ∈ ps, p.1 ≠ s) ∧ (Instr.findKey 43 (smK s) es).run Tryz.prog w = .ok none w) ∨ ((∃ p ∈ ps, p.1 = s) ∧ ∃ j, (Instr.findKey 43 (smK s) es).run Tryz.prog w = .ok (some (j, .int .i64 (lookG ps s))) w) := by
 have hp := Tryz.underlying43
 cases es with
 | nil =>
  have : ps = [] := by simpa using h.symm
  subst this
  exact .inl ⟨by simp, by simp [Instr.findKey, run_underlying hp, Instr.findNow]⟩
 | cons e es =>
  have := stFindAsking w s (e :: es) ps 0 h
  unfold Instr.findKey
  simp only [Sem.run_bind, run_underlying hp, Result.andThen_ok]
  have hf : ∀ fs, Instr.findNow (.struct fs) (smK s) (e :: es) 0 = none := fun fs => by simp [Instr.findNow, Instr.sameNow]
  rw [hf]
  exact this
theorem stCheck (s : Sv) (em : Bool) (w : World) : (Instr.checkKey em 10000 43 (smK s)).run Tryz.prog w = .ok () w := by
 cases em <;> kernel_rfl
theorem stMap_look {w : World} {B : Nat} {ps : List (Sv × Int)} (h : StMap w B ps) (s : Sv) :
 (Instr.lookup 100 (.map (some B)) (smK s) false).run Tryz.prog w = .ok (.int .i64 (lookG ps s)) w := by
 obtain ⟨es, clock, hB, he⟩ := h
 have hm := Tryz.underlying100
 have hz : (zeroValue 3).run Tryz.prog w = .ok (.int .i64 0) w := by kernel_rfl
 have hc := stCheck s es.isEmpty w
 rcases stFindKey w s es.toList ps he with ⟨h1, h2⟩ | ⟨h1, j, h2⟩
 · have hl : lookG ps s = 0 := by
    unfold lookG
    rw [List.find?_eq_none.2 (fun p hp => by simpa using h1 p hp)]
   unfold Instr.lookup
   simp [run_underlying hm, Go.MapKept.run_getObj_map hB, hc, h2, hz, hl]
 · unfold Instr.lookup
   simp [run_underlying hm, Go.MapKept.run_getObj_map hB, hc, h2]
end Go.Proofs.YtjlliohjeiclaaaGreatDoor
