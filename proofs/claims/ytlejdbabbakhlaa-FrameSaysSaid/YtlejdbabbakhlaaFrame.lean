/-
  Check and Write of package frame, Frame, four and FrameText of the reference: what they compute.
-/
import Derived.Test.YtlejdbabbakhlaaSumRef
namespace Go.Proofs.Ytlejdbabbakhlaa
open Go.ChangeShapes Go.WideShapes Go.ChangeAt Go.RowKit

namespace Frm
def hdr (k who : Int) (n : Nat) : List Int := [k, who, (n : Int) % 256, (n : Int) / 256]
def base (k who : Int) (b : ByteArray) : ByteArray := strOfNums (hdr k who b.size) ++ b
def four (c : Int) : List Int := [c % 256, c / 256 % 256, c / 65536 % 256, c / 16777216]
def text (k who : Int) (b : ByteArray) : ByteArray := base k who b ++ strOfNums (four (Crc.more 0 (base k who b).data.toList))
theorem base_size (k who : Int) (b : ByteArray) : (base k who b).size = 4 + b.size := by
  unfold base; rw [ByteArray.size_append, strOfNums_size]; rfl
theorem base_def (k who : Int) (b : ByteArray) : strOfNums (hdr k who b.size) ++ b = base k who b := rfl
theorem base_eq (k who : Int) (b : ByteArray) : strOfNums (hdr k who b.size ++ strI b) = base k who b := by
  unfold base; rw [strOfNums_app, strOfNums_strI]
theorem text_eq (k who c : Int) (b : ByteArray) (hc : Crc.more 0 (base k who b).data.toList = c) : base k who b ++ strOfNums (four c) = text k who b := by
  rw [text, hc]
theorem text_eq2 (k who c : Int) (b : ByteArray) (hc : Crc.more 0 (base k who b).data.toList = c) : strOfNums (hdr k who b.size ++ strI b ++ four c) = text k who b := by
  rw [strOfNums_app, base_eq, text_eq k who c b hc]
def err (k who : Int) (b : ByteArray) : Int := if k < 1 ∨ 9 < k ∨ who < 0 ∨ 255 < who then 1 else if 1024 < b.size then 2 else 0
theorem err_bad (k who : Int) (b : ByteArray) (h : k < 1 ∨ 9 < k ∨ who < 0 ∨ 255 < who) : err k who b = 1 := by rw [err, if_pos h]
theorem err_large (k who : Int) (b : ByteArray) (h : ¬ (k < 1 ∨ 9 < k ∨ who < 0 ∨ 255 < who)) (hb : 1024 < b.size) : err k who b = 2 := by rw [err, if_neg h, if_pos hb]
theorem err_ok (k who : Int) (b : ByteArray) (h : ¬ (k < 1 ∨ 9 < k ∨ who < 0 ∨ 255 < who)) (hb : ¬ 1024 < b.size) : err k who b = 0 := by rw [err, if_neg h, if_neg hb]
theorem err_cases (k who : Int) (b : ByteArray) : (0 < err k who b ∧ err k who b ≤ 2) ∨ (err k who b = 0 ∧ 1 ≤ k ∧ k ≤ 9 ∧ 0 ≤ who ∧ who ≤ 255 ∧ b.size ≤ 1024) := by
  by_cases h : k < 1 ∨ 9 < k ∨ who < 0 ∨ 255 < who
  · rw [err_bad k who b h]; omega
  · by_cases hb : 1024 < b.size
    · rw [err_large k who b h hb]; omega
    · rw [err_ok k who b h hb]; omega
theorem zero_in : Crc.In 0 := ⟨by decide, by decide⟩
end Frm
attribute [irreducible] Frm.err Frm.base Frm.text

theorem Frm.conv (k who : Int) (b : ByteArray) (w : World) (B g n cap : Nat)
    (h : Own w B 5 1 (.slice (some ⟨g, 0, none⟩) n cap) ((Frm.hdr k who b.size ++ strI b).map (Value.int .u8))) :
    (convert 97 9 (.slice (some ⟨g, 0, none⟩) n cap)).run Try.prog w = .ok (.string (Frm.base k who b)) w := by
  rw [← Frm.base_eq]
  exact str_of_own Try.underlying97 Try.underlying5 Try.underlying9 _ h

theorem Frm.conv3 (k who : Int) (b : ByteArray) (w : World) (B g n cap : Nat)
    (h : Own w B 5 1 (.slice (some ⟨g, 0, none⟩) n cap) ((Frm.hdr k who b.size ++ strI b ++ Frm.four (Crc.more 0 (Frm.base k who b).data.toList)).map (Value.int .u8))) :
    (convert 97 9 (.slice (some ⟨g, 0, none⟩) n cap)).run Try.prog w = .ok (.string (Frm.text k who b)) w := by
  rw [← Frm.text_eq2 k who _ b rfl]
  exact str_of_own Try.underlying97 Try.underlying5 Try.underlying9 _ h

theorem sum_any (s : ByteArray) (hs : s.size ≤ maxLen) (w : World) :
    Calls Try.prog 14 #[.string s] w fun e w' => e = .returned (.int .u32 (Crc.more 0 s.data.toList)) ∧ w = w' := by
  go_enter Try.func14, Try.ntmps14
  go_wp2_with (go_at_call 16; refine (more_any _ _ Frm.zero_in (by assumption) _).mono ?_; rintro e w' ⟨rfl, rfl⟩)
  go_ret
  exact ⟨rfl, rfl⟩

theorem frmCheck_any (k who : Int) (b : ByteArray) (hb : b.size ≤ maxLen) (w : World) :
    Calls Try.prog 24 #[.agg #[.int .i64 k, .int .i64 who, .string b]] w fun e w' => e = .returned (.int .i64 (Frm.err k who b)) ∧ Below w.heap.size w w' := by
  unfold maxLen at hb
  by_cases h0 : k < 1
  · have He := Lib.hid (Frm.err_bad k who b (.inl h0))
    go_enter Try.func24, Try.ntmps24
    go_wp2
    go_ret
    exact ⟨by rw [He.out]; rfl, (Below.refl _ _).alloc (Nat.le_refl _) _⟩
  by_cases h1 : 9 < k
  · have He := Lib.hid (Frm.err_bad k who b (.inr (.inl h1)))
    go_enter Try.func24, Try.ntmps24
    go_wp2
    go_ret
    exact ⟨by rw [He.out]; rfl, (Below.refl _ _).alloc (Nat.le_refl _) _⟩
  by_cases h2 : who < 0
  · have He := Lib.hid (Frm.err_bad k who b (.inr (.inr (.inl h2))))
    go_enter Try.func24, Try.ntmps24
    go_wp2
    go_ret
    exact ⟨by rw [He.out]; rfl, (Below.refl _ _).alloc (Nat.le_refl _) _⟩
  by_cases h3 : 255 < who
  · have He := Lib.hid (Frm.err_bad k who b (.inr (.inr (.inr h3))))
    go_enter Try.func24, Try.ntmps24
    go_wp2
    go_ret
    exact ⟨by rw [He.out]; rfl, (Below.refl _ _).alloc (Nat.le_refl _) _⟩
  by_cases h4 : 1024 < b.size
  · have He := Lib.hid (Frm.err_large k who b (by omega) h4)
    go_enter Try.func24, Try.ntmps24
    go_wp2
    go_ret
    exact ⟨by rw [He.out]; rfl, (Below.refl _ _).alloc (Nat.le_refl _) _⟩
  · have He := Lib.hid (Frm.err_ok k who b (by omega) h4)
    go_enter Try.func24, Try.ntmps24
    go_wp2
    go_ret
    exact ⟨by rw [He.out]; rfl, (Below.refl _ _).alloc (Nat.le_refl _) _⟩

theorem rfrm_any (k who : Int) (b : ByteArray) (hb : b.size ≤ maxLen) (w : World) :
    Calls Try.prog 21 #[.agg #[.int .i64 k, .int .i64 who, .string b]] w fun e w' => e = .returned (.int .i64 (Frm.err k who b)) ∧ Below w.heap.size w w' := by
  unfold maxLen at hb
  by_cases h0 : k < 1
  · have He := Lib.hid (Frm.err_bad k who b (.inl h0))
    go_enter Try.func21, Try.ntmps21
    go_wp2
    go_ret
    exact ⟨by rw [He.out]; rfl, (Below.refl _ _).alloc (Nat.le_refl _) _⟩
  by_cases h1 : 9 < k
  · have He := Lib.hid (Frm.err_bad k who b (.inr (.inl h1)))
    go_enter Try.func21, Try.ntmps21
    go_wp2
    go_ret
    exact ⟨by rw [He.out]; rfl, (Below.refl _ _).alloc (Nat.le_refl _) _⟩
  by_cases h2 : who < 0
  · have He := Lib.hid (Frm.err_bad k who b (.inr (.inr (.inl h2))))
    go_enter Try.func21, Try.ntmps21
    go_wp2
    go_ret
    exact ⟨by rw [He.out]; rfl, (Below.refl _ _).alloc (Nat.le_refl _) _⟩
  by_cases h3 : 255 < who
  · have He := Lib.hid (Frm.err_bad k who b (.inr (.inr (.inr h3))))
    go_enter Try.func21, Try.ntmps21
    go_wp2
    go_ret
    exact ⟨by rw [He.out]; rfl, (Below.refl _ _).alloc (Nat.le_refl _) _⟩
  by_cases h4 : 1024 < b.size
  · have He := Lib.hid (Frm.err_large k who b (by omega) h4)
    go_enter Try.func21, Try.ntmps21
    go_wp2
    go_ret
    exact ⟨by rw [He.out]; rfl, (Below.refl _ _).alloc (Nat.le_refl _) _⟩
  · have He := Lib.hid (Frm.err_ok k who b (by omega) h4)
    go_enter Try.func21, Try.ntmps21
    go_wp2
    go_ret
    exact ⟨by rw [He.out]; rfl, (Below.refl _ _).alloc (Nat.le_refl _) _⟩

theorem four_any (c : Int) (hc : Crc.In c) (w : World) :
    Calls Try.prog 54 #[.int .u32 c] w fun e w' => e = .returned (.string (strOfNums (Frm.four c))) ∧ Below w.heap.size w w' := by
  obtain ⟨h0, h1⟩ := hc
  have hcv : ∀ W : World, (convert 97 9 (.slice (some ⟨W.heap.size, 0, none⟩) 4 4)).run Try.prog (W.alloc (.cells #[.int .u8 (c % 256), .int .u8 (c / 256 % 256), .int .u8 (c / 65536 % 256), .int .u8 (c / 16777216)] 5)) =
      .ok (.string (strOfNums (Frm.four c))) (W.alloc (.cells #[.int .u8 (c % 256), .int .u8 (c / 256 % 256), .int .u8 (c / 65536 % 256), .int .u8 (c / 16777216)] 5)) := fun W =>
    str_of_own (B := W.heap.size) Try.underlying97 Try.underlying5 Try.underlying9 (Frm.four c) (own_lit _ (Frm.four c) rfl rfl (Nat.le_refl _) (by decide))
  go_enter Try.func54, Try.ntmps54
  go_wp2
  go_ret
  exact ⟨rfl, (Below.refl _ _).alloc (Nat.le_refl _) _⟩

set_option maxRecDepth 100000 in
theorem frameText_any (k who : Int) (b : ByteArray) (hk0 : 1 ≤ k) (hk1 : k ≤ 9) (hw0 : 0 ≤ who) (hw1 : who ≤ 255) (hb : b.size ≤ 1024) (w : World) :
    Calls Try.prog 23 #[.agg #[.int .i64 k, .int .i64 who, .string b]] w fun e w' => e = .returned (.string (Frm.text k who b)) ∧ Below w.heap.size w w' := by
  have hcv : ∀ (W : World) (g : Nat), g = W.heap.size → (convert 97 9 (.slice (some ⟨g, 0, none⟩) 4 4)).run Try.prog (W.alloc (.cells #[.int .u8 k, .int .u8 who, .int .u8 ((b.size : Int) % 256), .int .u8 ((b.size : Int) / 256)] 5)) =
      .ok (.string (strOfNums (Frm.hdr k who b.size))) (W.alloc (.cells #[.int .u8 k, .int .u8 who, .int .u8 ((b.size : Int) % 256), .int .u8 ((b.size : Int) / 256)] 5)) := fun W g hg => by
    subst hg
    exact str_of_own (B := W.heap.size) Try.underlying97 Try.underlying5 Try.underlying9 (Frm.hdr k who b.size) (own_lit _ (Frm.hdr k who b.size) rfl rfl (Nat.le_refl _) (by decide))
  have hbs := Frm.base_size k who b
  have hc := Crc.more_in 0 (Frm.base k who b).data.toList Frm.zero_in
  have hbl : (Frm.base k who b).size ≤ maxLen := by unfold maxLen; omega
  have hadd1 : ∀ W, (Op.stringOp .add (strOfNums (Frm.hdr k who b.size)) b).run Try.prog W = .ok (.string (Frm.base k who b)) W := fun W => by
    rw [← Frm.base_def]
    exact run_string_add_sum W _ _ (by rw [strOfNums_size]; simp [Frm.hdr]; omega)
  have hadd2 : ∀ W, (Op.stringOp .add (Frm.base k who b) (strOfNums (Frm.four (Crc.more 0 (Frm.base k who b).data.toList)))).run Try.prog W = .ok (.string (Frm.text k who b)) W := fun W => by
    rw [← Frm.text_eq k who _ b rfl]
    exact run_string_add_sum W _ _ (by rw [strOfNums_size]; simp [Frm.four]; omega)
  have Hbl := Lib.hid hbl; clear hbl hbs
  go_enter Try.func23, Try.ntmps23
  go_wp2_with (first
    | (go_at_call 15; refine (rsum_any _ _ Frm.zero_in Hbl.out _).mono ?_; rintro e w' ⟨rfl, rfl⟩)
    | (go_at_call 54; refine (four_any _ hc _).mono ?_; rintro e w1 ⟨rfl, hb1⟩))
  go_ret
  exact ⟨rfl, ((((Below.refl _ _).alloc (Nat.le_refl _) _).alloc (by simp) _)).trans (hb1.mono (by simp; omega))⟩

set_option maxRecDepth 100000 in
theorem frameWrite_bad (k who : Int) (b : ByteArray) (hb : b.size ≤ maxLen) (h0 : 0 < Frm.err k who b) (w : World) :
    Calls Try.prog 22 #[.agg #[.int .i64 k, .int .i64 who, .string b]] w fun e w' => e = .returned (.tuple #[.string ByteArray.empty, .int .i64 (Frm.err k who b)]) ∧ Below w.heap.size w w' := by
  go_enter Try.func22, Try.ntmps22
  go_wp2_with (go_at_call 24; refine (frmCheck_any k who b hb _).mono ?_; rintro e w1 ⟨rfl, hb1⟩)
  go_ret2
  exact ⟨rfl, ((Below.refl _ _).alloc (Nat.le_refl _) _).trans (hb1.mono (by simp))⟩

set_option maxRecDepth 100000 in
theorem frameWrite_ok (k who : Int) (b : ByteArray) (hk0 : 1 ≤ k) (hk1 : k ≤ 9) (hw0 : 0 ≤ who) (hw1 : who ≤ 255) (hb : b.size ≤ 1024) (he : Frm.err k who b = 0) (w : World) :
    Calls Try.prog 22 #[.agg #[.int .i64 k, .int .i64 who, .string b]] w fun e w' => e = .returned (.tuple #[.string (Frm.text k who b), .int .i64 0]) ∧ Below w.heap.size w w' := by
  have HE := Lib.hid he; clear he
  have hbs := Frm.base_size k who b
  have hc := Crc.more_in 0 (Frm.base k who b).data.toList Frm.zero_in
  have hbl : (Frm.base k who b).size ≤ maxLen := by unfold maxLen; omega
  have Hbl := Lib.hid hbl; clear hbl hbs
  obtain ⟨hc0, hc1⟩ := hc
  go_enter Try.func22, Try.ntmps22
  go_wp2_with (first
    | (go_at_call 24; refine (frmCheck_any k who b (by unfold maxLen; omega) _).mono ?_; rintro e w1 ⟨rfl, hb1⟩; rw [HE.out]; obtain ⟨hcl, hfr⟩ := bcell hb1; have hz : w.heap.size < w1.heap.size := by have := hb1.size; simp at this; omega)
    | (at_builtin; refine appStr u8E rfl (by kernel_rfl) Try.underlying9 rfl _ _ rfl w.heap.size (Frm.hdr k who b.size) rfl (own_lit _ _ rfl rfl (by omega) (by decide)) b rfl (by simp [Frm.hdr]; omega) (by simp; omega) ?_; intro g2 n2 cap2 w2 hown2 hgr2 hg2 hg2'; have hcv := Frm.conv k who b _ _ _ _ _ hown2)
    | (at_builtin; refine appNi u8E rfl (.tmp 34) (.tmp 46) rfl w.heap.size (Frm.hdr k who b.size ++ strI b) (Frm.four (Crc.more 0 (Frm.base k who b).data.toList)) rfl (hown2.alloc _) _ 4 4 rfl rfl (fun j q hq => cells_lit _ _ j q hq) (Nat.succ_pos _) (by simp [Frm.hdr, Frm.four, strI_length]; omega) (by simp [Frm.hdr, Frm.four, strI_length]; unfold maxLen; omega) (by simp; omega) ?_; intro g3 n3 cap3 w3 hown3 hgr3 hg3 hg3'; have hcv3 := Frm.conv3 k who b _ _ _ _ _ hown3)
    | (go_at_call 14; refine (sum_any _ Hbl.out _).mono ?_; rintro e w' ⟨rfl, rfl⟩))
  go_ret2
  refine ⟨rfl, ?_⟩
  have b1 : Below w.heap.size w w1 := ((Below.refl _ _).alloc (Nat.le_refl _) _).trans (hb1.mono (by simp))
  have b2 := (b1.alloc b1.size _).grown hgr2 (by simp; omega) (fun q hq => by cases hq; exact b1.size)
  have hgr3' : World.grownBy _ w3 (some g2) := hgr3
  exact (b2.alloc b2.size _).grown hgr3' (by have := b2.size; simp; omega) (fun q hq => by cases hq; exact hg2)
end Go.Proofs.Ytlejdbabbakhlaa
