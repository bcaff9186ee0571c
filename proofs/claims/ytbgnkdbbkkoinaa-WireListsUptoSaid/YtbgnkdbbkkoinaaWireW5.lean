/- Walks: Open; the chapter's rows. -/
import Derived.Test.YtbgnkdbbkkoinaaWireW4
namespace Go.Proofs.Ytbgnkdbbkkoinaa
open Go.RowKit Wire
theorem own_some {w : World} {base size n : Nat} {e : TypeId} {v : Value} {xs : List Value} (h : w.ownsRow base e size v n xs) {k k' : Nat} (hk : v.ownBlock = some k ∨ v.ownBlock = some k') :
    ∃ g cap, v = .slice (some ⟨g, 0, none⟩) n cap ∧ base ≤ g ∧ g < w.heap.size ∧ n ≤ cap := by
  rcases h.2 with ⟨rfl, _⟩ | ⟨g, cap, cur, rfl, hb, hg, hn, _⟩
  · simp [Value.ownBlock] at hk
  · exact ⟨g, cap, rfl, hb, (Array.getElem?_eq_some_iff.1 hg).1, hn⟩
theorem rd_Open (l : List UInt8) (a : Option Addr) (len cap : Nat) (w : World) (hl : BytesAt w a l) (hlen : len = l.length) (hm : l.length ≤ 35184372088832) :
    Calls Try.prog 19 #[.slice a len cap] w fun e w' => ∃ g ad cap', e = .returned (.pointer (some ⟨g, 0, none⟩)) ∧ w.heap.size ≤ g ∧ wRd w' g (some ad) cap' l 0 ∧ Below w.heap.size w w' ∧ w.heap.size ≤ ad.block := by
  subst hlen
  have BT := Lib.hid byteT
  have HL := Lib.hid hl; clear hl
  go_enter Try.func19, Try.ntmps19
  go_wp2_with (first
    | (at_make; refine wpList_mk0 rfl _ _ 23 rfl 5 (.int .u8 0) 1 1 BT.out _ _ _ (l.length + 1) rfl rfl (by simp) (by omega) (by omega) ?_; intro w0 hown0 D0)
    | (at_builtin; refine wpList_appb rfl _ _ 23 23 rfl w.heap.size 5 BT.out (.slice (some ⟨w.heap.size, 0, none⟩) 0 (l.length + 1)) [] rfl hown0 _ l rfl ((HL.out.below D0 rfl).src Try.underlying23 cap) (by simp; omega) D0.size ?_; intro v' w1 hown1 hgr1 hbel1 hv1; obtain ⟨gb, cap', rfl, hgb, hgl, hcl⟩ := own_some hown1 hv1))
  go_ret
  have hb1 := D0.trans hbel1
  refine ⟨_, ⟨gb, 0, none⟩, cap', rfl, hb1.size, ⟨heap_alloc_new w1 _, (own_bytes hown1).below (below_new w1 _) rfl, Nat.zero_le _, hm, hcl⟩, hb1.alloc hb1.size _, hgb⟩
theorem own_bytesAt {w : World} {base n : Nat} {e : TypeId} {v : Value} {l : List UInt8} (h : w.ownsRow base e 1 v n (bvs l)) : ∃ a cap, v = .slice a n cap ∧ BytesAt w a l := by
  obtain ⟨a, cap, rfl, _, _⟩ := own_slice h
  exact ⟨a, cap, rfl, own_bytes h⟩
/-- string(b), at hand. -/
def StrAt (w : World) (v : Value) (l : List UInt8) : Prop := (convert 23 9 v).run Try.prog w = .ok (.string ⟨l.toArray⟩) w
theorem BytesAt.str {w : World} {a : Option Addr} {l : List UInt8} (h : BytesAt w a l) (n cap : Nat) (hn : n = l.length) : (convert 23 9 (.slice a n cap)).run Try.prog w = .ok (.string ⟨l.toArray⟩) w :=
  conv_bytes h 23 5 9 Try.underlying23 Try.underlying5 Try.underlying9 n cap hn
theorem GivesB.str {w w' : World} {l : List UInt8} {e : Ending} (h : GivesB w l e w') : ∃ a cap, e = .returned (.slice a l.length cap) ∧ (w'.ownsRow w.heap.size 5 1 (.slice a l.length cap) l.length (bvs l) ∧ Below w.heap.size w w') ∧ (convert 23 9 (.slice a l.length cap)).run Try.prog w' = .ok (.string ⟨l.toArray⟩) w' := by
  obtain ⟨v, rfl, hown, hb⟩ := h
  obtain ⟨a, cap, rfl, hB⟩ := own_bytesAt hown
  exact ⟨a, cap, rfl, ⟨hown, hb⟩, hB.str _ _ rfl⟩
set_option maxHeartbeats 1000000 in
theorem rd_known (w : World) : Calls Try.prog 18 #[] w fun e w' => e = .returned (.bool true) ∧ Below w.heap.size w w' := by
  go_enter Try.func18, Try.ntmps18
  go_wp2_with fail
  refine (rd_Open [128, 1, 2, 97, 98] _ _ _ _ (BytesAt.fresh w 5 (0, 0) [128, 1, 2, 97, 98] _ rfl) rfl (by simp)).mono ?_
  rintro e w1 ⟨g, ad, cap, rfl, hg, hr, hb, _⟩
  have HR1 := Lib.hid hr; clear hr
  have HB1 : Hid (Below w.heap.size w w1) := Lib.hid ((below_new _ _).trans (hb.mono (by simp))); clear hb
  have HG : Hid (w.heap.size ≤ g) := Lib.hid (by simp at hg; omega); clear hg
  go_wp2_with fail
  refine (rd_Number HR1.out).mono ?_
  rintro e w2 ⟨rfl, hr⟩
  have HR2 := Lib.hid hr; clear hr
  rw [show numOut [128, 1, 2, 97, 98] 0 = (128, 2, 0) from by decide +kernel] at HR2 ⊢
  go_wp2_with fail
  refine (rd_Bytes 2 (by decide) HR2.out.rd).mono ?_
  rintro e w3 ⟨v, rfl, hown, hr⟩
  rw [show bytesOut [128, 1, 2, 97, 98] 2 2 = ([97, 98], 5, 0) from by decide +kernel] at hr hown ⊢
  have HR3 := Lib.hid hr; clear hr
  obtain ⟨a3, cap3, rfl, hb3⟩ := own_bytesAt hown
  have HO3 := Lib.hid hb3; clear hb3 hown
  have HB3 : Hid (Below w.heap.size w w3) := Lib.hid (HB1.out.trans (only_below (HR2.out.grown.trans HR3.out.grown) HG.out HR1.out.lt)); clear HB1
  go_wp2_with fail
  refine (rd_Open [128, 0] _ _ _ _ (BytesAt.fresh w3 5 (0, 0) [128, 0] _ rfl) rfl (by simp)).mono ?_
  rintro e w4 ⟨g2, ad2, cap2, rfl, hg, hr, hb, _⟩
  have HR4 := Lib.hid hr; clear hr
  have HB4 : Hid (Below w3.heap.size w3 w4) := Lib.hid ((below_new _ _).trans (hb.mono (by simp))); clear hb
  have HG2 : Hid (w3.heap.size ≤ g2) := Lib.hid (by simp at hg; omega); clear hg
  go_wp2_with fail
  refine (rd_Number HR4.out).mono ?_
  rintro e w5 ⟨rfl, hr⟩
  rw [show numOut [128, 0] 0 = (0, 0, 4) from by decide +kernel] at hr ⊢
  have HB5 : Hid (Below w3.heap.size w3 w5) := Lib.hid (HB4.out.trans (only_below hr.grown HG2.out HR4.out.lt)); clear hr HB4 HR4
  have HR5 := Lib.hid (HR3.out.rd.below HB5.out)
  have cv := (HO3.out.below HB5.out rfl).str 2 cap3 rfl
  go_wp2_with fail
  refine (num_any 0 _).mono ?_
  rintro e w6 ⟨rfl, rfl⟩
  go_wp2_with fail
  refine (num_any 0 _).mono ?_
  rintro e w6 ⟨rfl, rfl⟩
  go_wp2_with fail
  refine (rd_Left HR5.out).mono ?_
  rintro e w6 ⟨rfl, q6, rfl⟩
  go_wp2_with fail
  refine (rd_End (Reads.stayd HR5.out q6).rd).mono ?_
  rintro e w6 ⟨rfl, q7, rfl⟩
  rw [if_neg (by decide)]
  go_wp2_with fail
  refine (num_any 0 _).mono ?_
  rintro e w6 ⟨rfl, rfl⟩
  go_wp2_with fail
  refine (num_any 4 _).mono ?_
  rintro e w6 ⟨rfl, rfl⟩
  go_wp2_with fail
  refine (wire_Signed (-1) _ (by decide) (by decide)).mono ?_
  rintro e w8 h
  rw [show enc (Wire.fold (-1)) = [1] from by decide +kernel] at h
  obtain ⟨a8, cap8, rfl, ho8, cv8⟩ := h.str
  have HO8 := Lib.hid ho8; clear ho8 h
  replace cv8 : (convert 23 9 (.slice a8 1 cap8)).run Try.prog w8 = .ok (.string ⟨#[1]⟩) w8 := cv8
  go_wp2_with fail
  refine (wire_Number 300 300 _ rfl (by decide)).mono ?_
  rintro e w9 h
  rw [show enc 300 = [172, 2] from by decide +kernel] at h
  obtain ⟨a9, cap9, rfl, ho9, cv9⟩ := h.str
  have HO9 := Lib.hid ho9; clear ho9 h
  replace cv9 : (convert 23 9 (.slice a9 2 cap9)).run Try.prog w9 = .ok (.string ⟨#[172, 2]⟩) w9 := cv9
  go_wp2_with fail
  go_ret
  have b5 : Below w.heap.size w w5 := HB3.out.trans (HB5.out.mono HB3.out.size)
  have b8 : Below w.heap.size w w8 := (below_drews b5 _).trans (HO8.out.2.mono b5.size)
  exact ⟨rfl, b8.trans (HO9.out.2.mono b8.size)⟩
end Go.Proofs.Ytbgnkdbbkkoinaa