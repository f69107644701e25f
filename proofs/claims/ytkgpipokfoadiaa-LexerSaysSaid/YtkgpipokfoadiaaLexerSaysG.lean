/-
  The walk of the law LexerSays: a right automaton.
-/
import Derived.Test.YtkgpipokfoadiaaLexerSaysB
import Derived.Test.YtkgpipokfoadiaaSepAt
namespace Go.Proofs.Ytkgpipokfoadiaa
set_option linter.unusedVariables false
open Go.ChangeShapes Go.WideShapes Go.ChangeAt Go.RowKit

theorem Lx.toks_len {of next tags} (n : Nat) (l : List UInt8) (k : Int) (out) : (Lx.toks of next tags n l k out).1.length ≤ out.length + l.length := by
  induction n generalizing l k out with
  | zero => simp only [toks]; omega
  | succ n ih =>
    by_cases h : l = []
    · subst h; rw [toks_end]; simp
    · by_cases h1 : (longest of next tags l).2 = 0
      · rw [toks_bad h h1]; simp
      · rw [toks_step h h1]
        have h2 := longest_in of next tags l
        have h3 := ih (l.drop (longest of next tags l).2.toNat) (k + (longest of next tags l).2) (out ++ [((longest of next tags l).1, k, k + (longest of next tags l).2)])
        rw [List.length_drop, List.length_append, List.length_singleton] at h3
        have h4 : 0 < l.length := by cases l <;> simp_all
        omega

set_option maxRecDepth 100000 in
set_option maxHeartbeats 8000000 in
theorem lexerSays_neg_lo (A : Array Value) (of : List Int) (next : List (List Int)) (tags : List Int) (vn vt : Value) (s : ByteArray) (hs : s.size ≤ 140737488355328) (f : Int) (w : World) (hp : PackedAt w A of next tags vn vt) (hle : Lx.err of next tags s.size = 0) (he : Pkd.err of next tags = 0) (hf : f < 0) (hX2 : (Lx.toks of next tags s.size s.data.toList 0 []).2 = -1) :
    Calls Try.prog 6 #[.agg A, .string s, .int .i64 f] w fun e w' => e = .returned (.bool true) ∧ Below w.heap.size w w' := by
  have hsz : (Try.prog.info? 55).map (·.size) = some A.size := by rw [hp.size]; kernel_rfl
  have HS := Lib.hid hsz; clear hsz
  obtain ⟨h2000, h200, hg⟩ := Lx.err_zero hle
  obtain ⟨at1, n1, c1, rfl⟩ : ∃ a n c, vt = .slice a n c := by obtain ⟨ao, _, _, cap, h1, _⟩ := hp.tagss; exact ⟨_, _, _, h1⟩
  have HP := Lib.hid hp; clear hp
  have HR := fun w' h => rpacked_any A of next tags vn (.slice at1 n1 c1) w' h
  have HL := fun w' h => lex_any A of next tags vn (.slice at1 n1 c1) s hs w' h
  have HG := Lib.hid hg
  have HW := Lib.hid (fun w' h => wide_ok A of next tags vn (.slice at1 n1 c1) w' h h200 hg)
  have HT := fun v w' h => tokens_any v of next tags s h2000 w' h hg h200
  have HDF : Hid (∀ (v0 : Value) (w' : World) B, Own w' B 137 256 v0 ((Wd.rows of next next.length).map Wd.rowV) → Below w.heap.size w w' → DfaAt w' (.agg #[v0, .slice at1 n1 c1]) (Wd.rows of next next.length) tags) :=
    Lib.hid (fun v0 w' B ho hb => ⟨v0, _, rfl, Wd.sl ho (Wd.rows_wf of next tags hg h200 (fun c hc => (HP.out.of_wf c hc).1)), HP.out.tagss.call hb (fun _ _ h => h)⟩)
  have hXl := Lx.toks_len (of := of) (next := next) (tags := tags) s.size s.data.toList 0 []
  have HO := Lib.hid (fun w' h => lexOne_arg A of next tags vn (.slice at1 n1 c1) s hs w' h f hle (.inl hf))
  generalize hX : Lx.toks of next tags s.size s.data.toList 0 [] = X at *
  obtain ⟨XL, X2⟩ := X
  simp only at hX2 hXl
  rw [hle] at HL
  rw [he] at HR
  unfold Lx.RetLex at HL
  unfold Lx.RetTok at HT
  subst hX2
  simp only [true_and, if_true, show ¬ (0 : Int) ≤ -1 by decide, if_false] at HL HT
  have hXL : (XL.length : Int) * 24 ≤ 140737488355328 := by simp at hXl; omega
  replace HR := Lib.hid HR; replace HL := Lib.hid HL; replace HT := Lib.hid HT
  have HXL := Lib.hid hXL
  clear he hle hg hX hXl hXL
  have hst := (St.init w).alloc A 55
  have HA := Lib.hid hst.celHeap
  go_enter Try.func6, Try.ntmps6
  go_wp2_with (first
    | (refine wpList_load_row rfl 55 (.tmp 3) rfl w.heap.size rfl 55 A (0, 0) _ HA.out Try.underlying55 rfl HS.out ?_)
    | fail)
  go_at_call 27
  refine (HR.out _ (HP.out.below hst.bel)).mono ?_
  rintro e w1 ⟨rfl, hb1⟩
  replace hst := hst.call hb1
  have HB := Lib.hid hst.celHeap
  clear hb1 HA
  go_wp2_with (first
    | (refine wpList_load_row rfl 55 (.tmp 3) rfl w.heap.size rfl 55 A (0, 0) _ HB.out Try.underlying55 rfl HS.out ?_)
    | fail)
  go_at_call 28
  refine (HL.out _ (HP.out.below hst.bel)).mono ?_
  rintro e w2 ⟨v2, rfl, ho2, hb2⟩
  obtain ⟨a2, c2, rfl⟩ := ho2.isLen
  rw [List.length_map] at ho2 ⊢
  have hst2 := (hst.pushOwn hb2 ho2).get2
  have HC := Lib.hid hst2.celHeap
  clear hb2 HB ho2 hst
  go_wp2_with (first
    | (refine wpList_load_row rfl 55 (.tmp 3) rfl w.heap.size rfl 55 A (0, 0) _ HC.out Try.underlying55 rfl HS.out ?_)
    | fail)
  go_at_call 29
  refine (HO.out _ (HP.out.below hst2.bel)).mono ?_
  rintro e w3 ⟨rfl, hb3⟩
  have hst3 := ((hst2.call hb3).alloc #[.int .i64 0, .int .i64 0, .int .i64 0] 61).get2
  have HB := Lib.hid hst3.celHeap
  clear hb3 HC hst2
  go_wp2_with (first
    | (refine wpList_load_row rfl 55 (.tmp 3) rfl w.heap.size rfl 55 A (0, 0) _ HB.out Try.underlying55 rfl HS.out ?_)
    | fail)
  go_at_call 30
  refine (HW.out _ (HP.out.below hst3.bel)).mono ?_
  rintro e w5 ⟨v0, rfl, ho5, hb5⟩
  obtain ⟨a0, n0, c0, rfl⟩ := ho5.isSlice
  have hst5 := (hst3.pushOwn hb5 ho5).alloc #[.slice a0 n0 c0, .slice at1 n1 c1] 66
  obtain ⟨d0, d1⟩ := hst5.cel2
  clear hb5 HB hst3 ho5
  go_wp2_with (fail)
  go_at_call 31
  refine (HT.out _ _ (HDF.out _ _ _ hst5.get2.own hst5.bel)).mono ?_
  rintro e w6 ⟨v6, rfl, ho6, hb6⟩
  obtain ⟨a6, c6, rfl⟩ := ho6.isLen
  rw [List.length_map] at ho6 ⊢
  have hst6 := hst5.pushOwn hb6 ho6
  clear hb6 ho6 hst5 d0 d1
  have k2 := hst6.nth 5 rfl
  have k6 := hst6.nth 0 rfl
  have e2 := k2.own.tok (F := fun b => b < w6.heap.size) (fun b hb => (k2.fpOwn b hb).2) HXL.out
  have e6 := k6.own.tok (F := fun b => b < w6.heap.size) (fun b hb => (k6.fpOwn b hb).2) HXL.out
  have E2 := Lib.hid e2; have E6 := Lib.hid e6
  clear k2 k6 e2 e6
  go_wp2_with (fail)
  go_at_call 32
  refine (eqToks _ E2.out E6.out).mono ?_
  rintro e w7 ⟨rfl, hb7⟩
  have hst7 := hst6.call hb7
  clear hb7 hst6 E2 E6
  obtain ⟨z0, z1, z2⟩ := hst7.at3 4 rfl
  go_wp2_with (fail)
  go_ret
  exact ⟨by simp, hst7.bel⟩

set_option maxRecDepth 100000 in
set_option maxHeartbeats 8000000 in
theorem lexerSays_neg_hi (A : Array Value) (of : List Int) (next : List (List Int)) (tags : List Int) (vn vt : Value) (s : ByteArray) (hs : s.size ≤ 140737488355328) (f : Int) (w : World) (hp : PackedAt w A of next tags vn vt) (hle : Lx.err of next tags s.size = 0) (he : Pkd.err of next tags = 0) (hf0 : ¬ f < 0) (hf : (s.size : Int) < f) (hX2 : (Lx.toks of next tags s.size s.data.toList 0 []).2 = -1) :
    Calls Try.prog 6 #[.agg A, .string s, .int .i64 f] w fun e w' => e = .returned (.bool true) ∧ Below w.heap.size w w' := by
  have hsz : (Try.prog.info? 55).map (·.size) = some A.size := by rw [hp.size]; kernel_rfl
  have HS := Lib.hid hsz; clear hsz
  obtain ⟨h2000, h200, hg⟩ := Lx.err_zero hle
  obtain ⟨at1, n1, c1, rfl⟩ : ∃ a n c, vt = .slice a n c := by obtain ⟨ao, _, _, cap, h1, _⟩ := hp.tagss; exact ⟨_, _, _, h1⟩
  have HP := Lib.hid hp; clear hp
  have HR := fun w' h => rpacked_any A of next tags vn (.slice at1 n1 c1) w' h
  have HL := fun w' h => lex_any A of next tags vn (.slice at1 n1 c1) s hs w' h
  have HG := Lib.hid hg
  have HW := Lib.hid (fun w' h => wide_ok A of next tags vn (.slice at1 n1 c1) w' h h200 hg)
  have HT := fun v w' h => tokens_any v of next tags s h2000 w' h hg h200
  have HDF : Hid (∀ (v0 : Value) (w' : World) B, Own w' B 137 256 v0 ((Wd.rows of next next.length).map Wd.rowV) → Below w.heap.size w w' → DfaAt w' (.agg #[v0, .slice at1 n1 c1]) (Wd.rows of next next.length) tags) :=
    Lib.hid (fun v0 w' B ho hb => ⟨v0, _, rfl, Wd.sl ho (Wd.rows_wf of next tags hg h200 (fun c hc => (HP.out.of_wf c hc).1)), HP.out.tagss.call hb (fun _ _ h => h)⟩)
  have hXl := Lx.toks_len (of := of) (next := next) (tags := tags) s.size s.data.toList 0 []
  have HO := Lib.hid (fun w' h => lexOne_arg A of next tags vn (.slice at1 n1 c1) s hs w' h f hle (.inr ⟨hf0, hf⟩))
  generalize hX : Lx.toks of next tags s.size s.data.toList 0 [] = X at *
  obtain ⟨XL, X2⟩ := X
  simp only at hX2 hXl
  rw [hle] at HL
  rw [he] at HR
  unfold Lx.RetLex at HL
  unfold Lx.RetTok at HT
  subst hX2
  simp only [true_and, if_true, show ¬ (0 : Int) ≤ -1 by decide, if_false] at HL HT
  have hXL : (XL.length : Int) * 24 ≤ 140737488355328 := by simp at hXl; omega
  replace HR := Lib.hid HR; replace HL := Lib.hid HL; replace HT := Lib.hid HT
  have HXL := Lib.hid hXL
  clear he hle hg hX hXl hXL
  have hst := (St.init w).alloc A 55
  have HA := Lib.hid hst.celHeap
  go_enter Try.func6, Try.ntmps6
  go_wp2_with (first
    | (refine wpList_load_row rfl 55 (.tmp 3) rfl w.heap.size rfl 55 A (0, 0) _ HA.out Try.underlying55 rfl HS.out ?_)
    | fail)
  go_at_call 27
  refine (HR.out _ (HP.out.below hst.bel)).mono ?_
  rintro e w1 ⟨rfl, hb1⟩
  replace hst := hst.call hb1
  have HB := Lib.hid hst.celHeap
  clear hb1 HA
  go_wp2_with (first
    | (refine wpList_load_row rfl 55 (.tmp 3) rfl w.heap.size rfl 55 A (0, 0) _ HB.out Try.underlying55 rfl HS.out ?_)
    | fail)
  go_at_call 28
  refine (HL.out _ (HP.out.below hst.bel)).mono ?_
  rintro e w2 ⟨v2, rfl, ho2, hb2⟩
  obtain ⟨a2, c2, rfl⟩ := ho2.isLen
  rw [List.length_map] at ho2 ⊢
  have hst2 := (hst.pushOwn hb2 ho2).get2
  have HC := Lib.hid hst2.celHeap
  clear hb2 HB ho2 hst
  go_wp2_with (first
    | (refine wpList_load_row rfl 55 (.tmp 3) rfl w.heap.size rfl 55 A (0, 0) _ HC.out Try.underlying55 rfl HS.out ?_)
    | fail)
  go_at_call 29
  refine (HO.out _ (HP.out.below hst2.bel)).mono ?_
  rintro e w3 ⟨rfl, hb3⟩
  have hst3 := ((hst2.call hb3).alloc #[.int .i64 0, .int .i64 0, .int .i64 0] 61).get2
  have HB := Lib.hid hst3.celHeap
  clear hb3 HC hst2
  go_wp2_with (first
    | (refine wpList_load_row rfl 55 (.tmp 3) rfl w.heap.size rfl 55 A (0, 0) _ HB.out Try.underlying55 rfl HS.out ?_)
    | fail)
  go_at_call 30
  refine (HW.out _ (HP.out.below hst3.bel)).mono ?_
  rintro e w5 ⟨v0, rfl, ho5, hb5⟩
  obtain ⟨a0, n0, c0, rfl⟩ := ho5.isSlice
  have hst5 := (hst3.pushOwn hb5 ho5).alloc #[.slice a0 n0 c0, .slice at1 n1 c1] 66
  obtain ⟨d0, d1⟩ := hst5.cel2
  clear hb5 HB hst3 ho5
  go_wp2_with (fail)
  go_at_call 31
  refine (HT.out _ _ (HDF.out _ _ _ hst5.get2.own hst5.bel)).mono ?_
  rintro e w6 ⟨v6, rfl, ho6, hb6⟩
  obtain ⟨a6, c6, rfl⟩ := ho6.isLen
  rw [List.length_map] at ho6 ⊢
  have hst6 := hst5.pushOwn hb6 ho6
  clear hb6 ho6 hst5 d0 d1
  have k2 := hst6.nth 5 rfl
  have k6 := hst6.nth 0 rfl
  have e2 := k2.own.tok (F := fun b => b < w6.heap.size) (fun b hb => (k2.fpOwn b hb).2) HXL.out
  have e6 := k6.own.tok (F := fun b => b < w6.heap.size) (fun b hb => (k6.fpOwn b hb).2) HXL.out
  have E2 := Lib.hid e2; have E6 := Lib.hid e6
  clear k2 k6 e2 e6
  go_wp2_with (fail)
  go_at_call 32
  refine (eqToks _ E2.out E6.out).mono ?_
  rintro e w7 ⟨rfl, hb7⟩
  have hst7 := hst6.call hb7
  clear hb7 hst6 E2 E6
  obtain ⟨z0, z1, z2⟩ := hst7.at3 4 rfl
  go_wp2_with (fail)
  go_ret
  exact ⟨by simp, hst7.bel⟩

set_option maxRecDepth 100000 in
set_option maxHeartbeats 8000000 in
theorem lexerSays_neg_no (A : Array Value) (of : List Int) (next : List (List Int)) (tags : List Int) (vn vt : Value) (s : ByteArray) (hs : s.size ≤ 140737488355328) (f : Int) (w : World) (hp : PackedAt w A of next tags vn vt) (hle : Lx.err of next tags s.size = 0) (he : Pkd.err of next tags = 0) (n : Nat) (hn : f = n) (hf : n ≤ s.size) (hx : (Lx.longest of next tags (s.data.toList.drop n)).2 = 0) (hX2 : (Lx.toks of next tags s.size s.data.toList 0 []).2 = -1) :
    Calls Try.prog 6 #[.agg A, .string s, .int .i64 f] w fun e w' => e = .returned (.bool true) ∧ Below w.heap.size w w' := by
  have hsz : (Try.prog.info? 55).map (·.size) = some A.size := by rw [hp.size]; kernel_rfl
  have HS := Lib.hid hsz; clear hsz
  obtain ⟨h2000, h200, hg⟩ := Lx.err_zero hle
  obtain ⟨at1, n1, c1, rfl⟩ : ∃ a n c, vt = .slice a n c := by obtain ⟨ao, _, _, cap, h1, _⟩ := hp.tagss; exact ⟨_, _, _, h1⟩
  have HP := Lib.hid hp; clear hp
  have HR := fun w' h => rpacked_any A of next tags vn (.slice at1 n1 c1) w' h
  have HL := fun w' h => lex_any A of next tags vn (.slice at1 n1 c1) s hs w' h
  have HG := Lib.hid hg
  have HW := Lib.hid (fun w' h => wide_ok A of next tags vn (.slice at1 n1 c1) w' h h200 hg)
  have HT := fun v w' h => tokens_any v of next tags s h2000 w' h hg h200
  have HDF : Hid (∀ (v0 : Value) (w' : World) B, Own w' B 137 256 v0 ((Wd.rows of next next.length).map Wd.rowV) → Below w.heap.size w w' → DfaAt w' (.agg #[v0, .slice at1 n1 c1]) (Wd.rows of next next.length) tags) :=
    Lib.hid (fun v0 w' B ho hb => ⟨v0, _, rfl, Wd.sl ho (Wd.rows_wf of next tags hg h200 (fun c hc => (HP.out.of_wf c hc).1)), HP.out.tagss.call hb (fun _ _ h => h)⟩)
  have hXl := Lx.toks_len (of := of) (next := next) (tags := tags) s.size s.data.toList 0 []
  subst hn
  have hLO := fun v w' h => longest_any v of next tags (s.extract n s.size) (by rw [ByteArray.size_extract]; omega) w' h hg h200
  rw [Lib.extract_to_end] at hLO
  generalize hxx : Lx.longest of next tags (s.data.toList.drop n) = x at *
  have HO := fun w' h => lexOne_ok A of next tags vn (.slice at1 n1 c1) s hs w' h n hf hle x hxx
  rw [if_pos hx] at HO
  rw [hx] at hLO
  have HLO := Lib.hid hLO
  replace HO := Lib.hid HO
  clear hLO hxx hx
  have hf0 : ¬ (n : Int) < 0 := by omega
  have hf1 : ¬ (s.size : Int) < n := by omega
  generalize hX : Lx.toks of next tags s.size s.data.toList 0 [] = X at *
  obtain ⟨XL, X2⟩ := X
  simp only at hX2 hXl
  rw [hle] at HL
  rw [he] at HR
  unfold Lx.RetLex at HL
  unfold Lx.RetTok at HT
  subst hX2
  simp only [true_and, if_true, show ¬ (0 : Int) ≤ -1 by decide, if_false] at HL HT
  have hXL : (XL.length : Int) * 24 ≤ 140737488355328 := by simp at hXl; omega
  replace HR := Lib.hid HR; replace HL := Lib.hid HL; replace HT := Lib.hid HT
  have HXL := Lib.hid hXL
  clear he hle hg hX hXl hXL
  have hst := (St.init w).alloc A 55
  have HA := Lib.hid hst.celHeap
  go_enter Try.func6, Try.ntmps6
  go_wp2_with (first
    | (refine wpList_load_row rfl 55 (.tmp 3) rfl w.heap.size rfl 55 A (0, 0) _ HA.out Try.underlying55 rfl HS.out ?_)
    | fail)
  go_at_call 27
  refine (HR.out _ (HP.out.below hst.bel)).mono ?_
  rintro e w1 ⟨rfl, hb1⟩
  replace hst := hst.call hb1
  have HB := Lib.hid hst.celHeap
  clear hb1 HA
  go_wp2_with (first
    | (refine wpList_load_row rfl 55 (.tmp 3) rfl w.heap.size rfl 55 A (0, 0) _ HB.out Try.underlying55 rfl HS.out ?_)
    | fail)
  go_at_call 28
  refine (HL.out _ (HP.out.below hst.bel)).mono ?_
  rintro e w2 ⟨v2, rfl, ho2, hb2⟩
  obtain ⟨a2, c2, rfl⟩ := ho2.isLen
  rw [List.length_map] at ho2 ⊢
  have hst2 := (hst.pushOwn hb2 ho2).get2
  have HC := Lib.hid hst2.celHeap
  clear hb2 HB ho2 hst
  go_wp2_with (first
    | (refine wpList_load_row rfl 55 (.tmp 3) rfl w.heap.size rfl 55 A (0, 0) _ HC.out Try.underlying55 rfl HS.out ?_)
    | fail)
  go_at_call 29
  refine (HO.out _ (HP.out.below hst2.bel)).mono ?_
  rintro e w3 ⟨rfl, hb3⟩
  have hst3 := ((hst2.call hb3).alloc #[.int .i64 0, .int .i64 0, .int .i64 0] 61).get2
  have HB := Lib.hid hst3.celHeap
  clear hb3 HC hst2
  go_wp2_with (first
    | (refine wpList_load_row rfl 55 (.tmp 3) rfl w.heap.size rfl 55 A (0, 0) _ HB.out Try.underlying55 rfl HS.out ?_)
    | fail)
  go_at_call 30
  refine (HW.out _ (HP.out.below hst3.bel)).mono ?_
  rintro e w5 ⟨v0, rfl, ho5, hb5⟩
  obtain ⟨a0, n0, c0, rfl⟩ := ho5.isSlice
  have hst5 := (hst3.pushOwn hb5 ho5).alloc #[.slice a0 n0 c0, .slice at1 n1 c1] 66
  obtain ⟨d0, d1⟩ := hst5.cel2
  clear hb5 HB hst3 ho5
  go_wp2_with (fail)
  go_at_call 31
  refine (HT.out _ _ (HDF.out _ _ _ hst5.get2.own hst5.bel)).mono ?_
  rintro e w6 ⟨v6, rfl, ho6, hb6⟩
  obtain ⟨a6, c6, rfl⟩ := ho6.isLen
  rw [List.length_map] at ho6 ⊢
  have hst6 := hst5.pushOwn hb6 ho6
  clear hb6 ho6 hst5 d0 d1
  have k2 := hst6.nth 5 rfl
  have k6 := hst6.nth 0 rfl
  have e2 := k2.own.tok (F := fun b => b < w6.heap.size) (fun b hb => (k2.fpOwn b hb).2) HXL.out
  have e6 := k6.own.tok (F := fun b => b < w6.heap.size) (fun b hb => (k6.fpOwn b hb).2) HXL.out
  have E2 := Lib.hid e2; have E6 := Lib.hid e6
  clear k2 k6 e2 e6
  go_wp2_with (fail)
  go_at_call 32
  refine (eqToks _ E2.out E6.out).mono ?_
  rintro e w7 ⟨rfl, hb7⟩
  have hst7 := hst6.call hb7
  clear hb7 hst6 E2 E6
  obtain ⟨z0, z1, z2⟩ := hst7.at3 4 rfl
  have HK : Hid (∀ w', St w w' [aOwn 61 3 (.slice a6 XL.length c6) (XL.map tokV), aCel w5.heap.size 66 #[.slice a0 n0 c0, .slice at1 n1 c1], aOwn 137 256 (.slice a0 n0 c0) ((Wd.rows of next next.length).map Wd.rowV), aCel w.heap.size 55 A, aCel w3.heap.size 61 #[.int .i64 0, .int .i64 0, .int .i64 0], aOwn 61 3 (.slice a2 XL.length c2) (XL.map tokV)] → w'.cell? ⟨w5.heap.size, 0, none⟩ = some (.slice a0 n0 c0) ∧ w'.cell? ⟨w5.heap.size, 1, none⟩ = some (.slice at1 n1 c1) ∧ St w w' [aOwn 61 3 (.slice a6 XL.length c6) (XL.map tokV), aCel w5.heap.size 66 #[.slice a0 n0 c0, .slice at1 n1 c1], aOwn 137 256 (.slice a0 n0 c0) ((Wd.rows of next next.length).map Wd.rowV), aCel w.heap.size 55 A, aCel w3.heap.size 61 #[.int .i64 0, .int .i64 0, .int .i64 0], aOwn 61 3 (.slice a2 XL.length c2) (XL.map tokV)]) := Lib.hid (fun w' h => ⟨(h.at2 1 rfl).1, (h.at2 1 rfl).2, h⟩)
  have HST := Lib.hid hst7
  clear hst7
  go_wp2_with (fail)
  go_region_held3 (fun w' => w'.cell? ⟨w5.heap.size, 0, none⟩ = some (.slice a0 n0 c0) ∧ w'.cell? ⟨w5.heap.size, 1, none⟩ = some (.slice at1 n1 c1) ∧ St w w' [aOwn 61 3 (.slice a6 XL.length c6) (XL.map tokV), aCel w5.heap.size 66 #[.slice a0 n0 c0, .slice at1 n1 c1], aOwn 137 256 (.slice a0 n0 c0) ((Wd.rows of next next.length).map Wd.rowV), aCel w.heap.size 55 A, aCel w3.heap.size 61 #[.int .i64 0, .int .i64 0, .int .i64 0], aOwn 61 3 (.slice a2 XL.length c2) (XL.map tokV)]) (first | exact HK.out _ HST.out.drew | exact HK.out _ HST2)
    ((go_at_call 33; have hh := ‹_ ∧ _ ∧ St w _ _›; refine (HLO.out _ _ (HDF.out _ _ _ (hh.2.2.ownAt 2 rfl) hh.2.2.bel)).mono ?_; rintro e w8 ⟨rfl, hb8⟩; have HST2 := hh.2.2.call hb8; clear hh hb8))
  have hst8 := (‹_ ∧ _ ∧ St w _ _›).2.2
  clear HST HK z0 z1 z2
  obtain ⟨z0, z1, z2⟩ := hst8.at3 4 rfl
  go_wp2_with (fail)
  go_ret
  exact ⟨by simp, hst8.bel⟩

set_option maxRecDepth 100000 in
set_option maxHeartbeats 8000000 in
theorem lexerSays_neg_yes (A : Array Value) (of : List Int) (next : List (List Int)) (tags : List Int) (vn vt : Value) (s : ByteArray) (hs : s.size ≤ 140737488355328) (f : Int) (w : World) (hp : PackedAt w A of next tags vn vt) (hle : Lx.err of next tags s.size = 0) (he : Pkd.err of next tags = 0) (n : Nat) (hn : f = n) (hf : n ≤ s.size) (hx : (Lx.longest of next tags (s.data.toList.drop n)).2 ≠ 0) (hX2 : (Lx.toks of next tags s.size s.data.toList 0 []).2 = -1) :
    Calls Try.prog 6 #[.agg A, .string s, .int .i64 f] w fun e w' => e = .returned (.bool true) ∧ Below w.heap.size w w' := by
  have hsz : (Try.prog.info? 55).map (·.size) = some A.size := by rw [hp.size]; kernel_rfl
  have HS := Lib.hid hsz; clear hsz
  obtain ⟨h2000, h200, hg⟩ := Lx.err_zero hle
  obtain ⟨at1, n1, c1, rfl⟩ : ∃ a n c, vt = .slice a n c := by obtain ⟨ao, _, _, cap, h1, _⟩ := hp.tagss; exact ⟨_, _, _, h1⟩
  have HP := Lib.hid hp; clear hp
  have HR := fun w' h => rpacked_any A of next tags vn (.slice at1 n1 c1) w' h
  have HL := fun w' h => lex_any A of next tags vn (.slice at1 n1 c1) s hs w' h
  have HG := Lib.hid hg
  have HW := Lib.hid (fun w' h => wide_ok A of next tags vn (.slice at1 n1 c1) w' h h200 hg)
  have HT := fun v w' h => tokens_any v of next tags s h2000 w' h hg h200
  have HDF : Hid (∀ (v0 : Value) (w' : World) B, Own w' B 137 256 v0 ((Wd.rows of next next.length).map Wd.rowV) → Below w.heap.size w w' → DfaAt w' (.agg #[v0, .slice at1 n1 c1]) (Wd.rows of next next.length) tags) :=
    Lib.hid (fun v0 w' B ho hb => ⟨v0, _, rfl, Wd.sl ho (Wd.rows_wf of next tags hg h200 (fun c hc => (HP.out.of_wf c hc).1)), HP.out.tagss.call hb (fun _ _ h => h)⟩)
  have hXl := Lx.toks_len (of := of) (next := next) (tags := tags) s.size s.data.toList 0 []
  subst hn
  have hLO := fun v w' h => longest_any v of next tags (s.extract n s.size) (by rw [ByteArray.size_extract]; omega) w' h hg h200
  rw [Lib.extract_to_end] at hLO
  generalize hxx : Lx.longest of next tags (s.data.toList.drop n) = x at *
  have HO := fun w' h => lexOne_ok A of next tags vn (.slice at1 n1 c1) s hs w' h n hf hle x hxx
  rw [if_neg hx] at HO
  have hlx := Lx.longest_in of next tags (s.data.toList.drop n)
  rw [hxx, List.length_drop] at hlx
  simp only [Array.length_toList, ByteArray.size_data] at hlx
  obtain ⟨hlx0, hlx1⟩ := hlx
  have hxz : (x.2 == 0) = false := by rw [beq_eq_false_iff_ne]; exact hx
  have HLO := Lib.hid hLO
  replace HO := Lib.hid HO
  clear hLO hxx hx
  have hf0 : ¬ (n : Int) < 0 := by omega
  have hf1 : ¬ (s.size : Int) < n := by omega
  generalize hX : Lx.toks of next tags s.size s.data.toList 0 [] = X at *
  obtain ⟨XL, X2⟩ := X
  simp only at hX2 hXl
  rw [hle] at HL
  rw [he] at HR
  unfold Lx.RetLex at HL
  unfold Lx.RetTok at HT
  subst hX2
  simp only [true_and, if_true, show ¬ (0 : Int) ≤ -1 by decide, if_false] at HL HT
  have hXL : (XL.length : Int) * 24 ≤ 140737488355328 := by simp at hXl; omega
  replace HR := Lib.hid HR; replace HL := Lib.hid HL; replace HT := Lib.hid HT
  have HXL := Lib.hid hXL
  clear he hle hg hX hXl hXL
  have hst := (St.init w).alloc A 55
  have HA := Lib.hid hst.celHeap
  go_enter Try.func6, Try.ntmps6
  go_wp2_with (first
    | (refine wpList_load_row rfl 55 (.tmp 3) rfl w.heap.size rfl 55 A (0, 0) _ HA.out Try.underlying55 rfl HS.out ?_)
    | fail)
  go_at_call 27
  refine (HR.out _ (HP.out.below hst.bel)).mono ?_
  rintro e w1 ⟨rfl, hb1⟩
  replace hst := hst.call hb1
  have HB := Lib.hid hst.celHeap
  clear hb1 HA
  go_wp2_with (first
    | (refine wpList_load_row rfl 55 (.tmp 3) rfl w.heap.size rfl 55 A (0, 0) _ HB.out Try.underlying55 rfl HS.out ?_)
    | fail)
  go_at_call 28
  refine (HL.out _ (HP.out.below hst.bel)).mono ?_
  rintro e w2 ⟨v2, rfl, ho2, hb2⟩
  obtain ⟨a2, c2, rfl⟩ := ho2.isLen
  rw [List.length_map] at ho2 ⊢
  have hst2 := (hst.pushOwn hb2 ho2).get2
  have HC := Lib.hid hst2.celHeap
  clear hb2 HB ho2 hst
  go_wp2_with (first
    | (refine wpList_load_row rfl 55 (.tmp 3) rfl w.heap.size rfl 55 A (0, 0) _ HC.out Try.underlying55 rfl HS.out ?_)
    | fail)
  go_at_call 29
  refine (HO.out _ (HP.out.below hst2.bel)).mono ?_
  rintro e w3 ⟨rfl, hb3⟩
  have hst3 := ((hst2.call hb3).alloc #[.int .i64 x.1, .int .i64 n, .int .i64 (n + x.2)] 61).get2
  have HB := Lib.hid hst3.celHeap
  clear hb3 HC hst2
  go_wp2_with (first
    | (refine wpList_load_row rfl 55 (.tmp 3) rfl w.heap.size rfl 55 A (0, 0) _ HB.out Try.underlying55 rfl HS.out ?_)
    | fail)
  go_at_call 30
  refine (HW.out _ (HP.out.below hst3.bel)).mono ?_
  rintro e w5 ⟨v0, rfl, ho5, hb5⟩
  obtain ⟨a0, n0, c0, rfl⟩ := ho5.isSlice
  have hst5 := (hst3.pushOwn hb5 ho5).alloc #[.slice a0 n0 c0, .slice at1 n1 c1] 66
  obtain ⟨d0, d1⟩ := hst5.cel2
  clear hb5 HB hst3 ho5
  go_wp2_with (fail)
  go_at_call 31
  refine (HT.out _ _ (HDF.out _ _ _ hst5.get2.own hst5.bel)).mono ?_
  rintro e w6 ⟨v6, rfl, ho6, hb6⟩
  obtain ⟨a6, c6, rfl⟩ := ho6.isLen
  rw [List.length_map] at ho6 ⊢
  have hst6 := hst5.pushOwn hb6 ho6
  clear hb6 ho6 hst5 d0 d1
  have k2 := hst6.nth 5 rfl
  have k6 := hst6.nth 0 rfl
  have e2 := k2.own.tok (F := fun b => b < w6.heap.size) (fun b hb => (k2.fpOwn b hb).2) HXL.out
  have e6 := k6.own.tok (F := fun b => b < w6.heap.size) (fun b hb => (k6.fpOwn b hb).2) HXL.out
  have E2 := Lib.hid e2; have E6 := Lib.hid e6
  clear k2 k6 e2 e6
  go_wp2_with (fail)
  go_at_call 32
  refine (eqToks _ E2.out E6.out).mono ?_
  rintro e w7 ⟨rfl, hb7⟩
  have hst7 := hst6.call hb7
  clear hb7 hst6 E2 E6
  obtain ⟨z0, z1, z2⟩ := hst7.at3 4 rfl
  have HK : Hid (∀ w', St w w' [aOwn 61 3 (.slice a6 XL.length c6) (XL.map tokV), aCel w5.heap.size 66 #[.slice a0 n0 c0, .slice at1 n1 c1], aOwn 137 256 (.slice a0 n0 c0) ((Wd.rows of next next.length).map Wd.rowV), aCel w.heap.size 55 A, aCel w3.heap.size 61 #[.int .i64 x.1, .int .i64 n, .int .i64 (n + x.2)], aOwn 61 3 (.slice a2 XL.length c2) (XL.map tokV)] → w'.cell? ⟨w5.heap.size, 0, none⟩ = some (.slice a0 n0 c0) ∧ w'.cell? ⟨w5.heap.size, 1, none⟩ = some (.slice at1 n1 c1) ∧ St w w' [aOwn 61 3 (.slice a6 XL.length c6) (XL.map tokV), aCel w5.heap.size 66 #[.slice a0 n0 c0, .slice at1 n1 c1], aOwn 137 256 (.slice a0 n0 c0) ((Wd.rows of next next.length).map Wd.rowV), aCel w.heap.size 55 A, aCel w3.heap.size 61 #[.int .i64 x.1, .int .i64 n, .int .i64 (n + x.2)], aOwn 61 3 (.slice a2 XL.length c2) (XL.map tokV)]) := Lib.hid (fun w' h => ⟨(h.at2 1 rfl).1, (h.at2 1 rfl).2, h⟩)
  have HST := Lib.hid hst7
  clear hst7
  go_wp2_with (fail)
  go_region_held3 (fun w' => w'.cell? ⟨w5.heap.size, 0, none⟩ = some (.slice a0 n0 c0) ∧ w'.cell? ⟨w5.heap.size, 1, none⟩ = some (.slice at1 n1 c1) ∧ St w w' [aOwn 61 3 (.slice a6 XL.length c6) (XL.map tokV), aCel w5.heap.size 66 #[.slice a0 n0 c0, .slice at1 n1 c1], aOwn 137 256 (.slice a0 n0 c0) ((Wd.rows of next next.length).map Wd.rowV), aCel w.heap.size 55 A, aCel w3.heap.size 61 #[.int .i64 x.1, .int .i64 n, .int .i64 (n + x.2)], aOwn 61 3 (.slice a2 XL.length c2) (XL.map tokV)]) (first | exact HK.out _ HST.out.drew | exact HK.out _ HST2)
    ((go_at_call 33; have hh := ‹_ ∧ _ ∧ St w _ _›; refine (HLO.out _ _ (HDF.out _ _ _ (hh.2.2.ownAt 2 rfl) hh.2.2.bel)).mono ?_; rintro e w8 ⟨rfl, hb8⟩; have HST2 := hh.2.2.call hb8; clear hh hb8))
  have hst8 := (‹_ ∧ _ ∧ St w _ _›).2.2
  clear HST HK z0 z1 z2
  obtain ⟨z0, z1, z2⟩ := hst8.at3 4 rfl
  go_wp2_with (fail)
  go_ret
  exact ⟨by simp, hst8.bel⟩

set_option maxRecDepth 100000 in
set_option maxHeartbeats 8000000 in
theorem lexerSays_pos_lo (A : Array Value) (of : List Int) (next : List (List Int)) (tags : List Int) (vn vt : Value) (s : ByteArray) (hs : s.size ≤ 140737488355328) (f : Int) (w : World) (hp : PackedAt w A of next tags vn vt) (hle : Lx.err of next tags s.size = 0) (he : Pkd.err of next tags = 0) (hf : f < 0) (hX2 : 0 ≤ (Lx.toks of next tags s.size s.data.toList 0 []).2) :
    Calls Try.prog 6 #[.agg A, .string s, .int .i64 f] w fun e w' => e = .returned (.bool true) ∧ Below w.heap.size w w' := by
  have hsz : (Try.prog.info? 55).map (·.size) = some A.size := by rw [hp.size]; kernel_rfl
  have HS := Lib.hid hsz; clear hsz
  obtain ⟨h2000, h200, hg⟩ := Lx.err_zero hle
  obtain ⟨at1, n1, c1, rfl⟩ : ∃ a n c, vt = .slice a n c := by obtain ⟨ao, _, _, cap, h1, _⟩ := hp.tagss; exact ⟨_, _, _, h1⟩
  have HP := Lib.hid hp; clear hp
  have HR := fun w' h => rpacked_any A of next tags vn (.slice at1 n1 c1) w' h
  have HL := fun w' h => lex_any A of next tags vn (.slice at1 n1 c1) s hs w' h
  have HG := Lib.hid hg
  have HW := Lib.hid (fun w' h => wide_ok A of next tags vn (.slice at1 n1 c1) w' h h200 hg)
  have HT := fun v w' h => tokens_any v of next tags s h2000 w' h hg h200
  have HDF : Hid (∀ (v0 : Value) (w' : World) B, Own w' B 137 256 v0 ((Wd.rows of next next.length).map Wd.rowV) → Below w.heap.size w w' → DfaAt w' (.agg #[v0, .slice at1 n1 c1]) (Wd.rows of next next.length) tags) :=
    Lib.hid (fun v0 w' B ho hb => ⟨v0, _, rfl, Wd.sl ho (Wd.rows_wf of next tags hg h200 (fun c hc => (HP.out.of_wf c hc).1)), HP.out.tagss.call hb (fun _ _ h => h)⟩)
  have hXl := Lx.toks_len (of := of) (next := next) (tags := tags) s.size s.data.toList 0 []
  have HO := Lib.hid (fun w' h => lexOne_arg A of next tags vn (.slice at1 n1 c1) s hs w' h f hle (.inl hf))
  generalize hX : Lx.toks of next tags s.size s.data.toList 0 [] = X at *
  obtain ⟨XL, X2⟩ := X
  simp only at hX2 hXl
  rw [hle] at HL
  rw [he] at HR
  unfold Lx.RetLex at HL
  unfold Lx.RetTok at HT
  simp only [true_and, if_true, hX2, if_true] at HL HT
  have hq : (X2 != X2) = false := by rw [bne_eq_false_iff_eq]
  have hmx : ¬ (0 : Int) > X2 := by omega
  have hXL : (XL.length : Int) * 24 ≤ 140737488355328 := by simp at hXl; omega
  replace HR := Lib.hid HR; replace HL := Lib.hid HL; replace HT := Lib.hid HT
  have HXL := Lib.hid hXL
  clear he hle hg hX hXl hXL
  have hst := (St.init w).alloc A 55
  have HA := Lib.hid hst.celHeap
  go_enter Try.func6, Try.ntmps6
  go_wp2_with (first
    | (refine wpList_load_row rfl 55 (.tmp 3) rfl w.heap.size rfl 55 A (0, 0) _ HA.out Try.underlying55 rfl HS.out ?_)
    | fail)
  go_at_call 27
  refine (HR.out _ (HP.out.below hst.bel)).mono ?_
  rintro e w1 ⟨rfl, hb1⟩
  replace hst := hst.call hb1
  have HB := Lib.hid hst.celHeap
  clear hb1 HA
  go_wp2_with (first
    | (refine wpList_load_row rfl 55 (.tmp 3) rfl w.heap.size rfl 55 A (0, 0) _ HB.out Try.underlying55 rfl HS.out ?_)
    | fail)
  go_at_call 28
  refine (HL.out _ (HP.out.below hst.bel)).mono ?_
  rintro e w2 ⟨v2, rfl, ho2, hb2⟩
  obtain ⟨a2, c2, rfl⟩ := ho2.isLen
  rw [List.length_map] at ho2 ⊢
  have hst2 := (hst.pushOwn hb2 ho2).get2
  have HC := Lib.hid hst2.celHeap
  clear hb2 HB ho2 hst
  go_wp2_with (first
    | (refine wpList_load_row rfl 55 (.tmp 3) rfl w.heap.size rfl 55 A (0, 0) _ HC.out Try.underlying55 rfl HS.out ?_)
    | fail)
  go_at_call 29
  refine (HO.out _ (HP.out.below hst2.bel)).mono ?_
  rintro e w3 ⟨rfl, hb3⟩
  have hst3 := ((hst2.call hb3).alloc #[.int .i64 0, .int .i64 0, .int .i64 0] 61).get2
  have HB := Lib.hid hst3.celHeap
  clear hb3 HC hst2
  go_wp2_with (first
    | (refine wpList_load_row rfl 55 (.tmp 3) rfl w.heap.size rfl 55 A (0, 0) _ HB.out Try.underlying55 rfl HS.out ?_)
    | fail)
  go_at_call 30
  refine (HW.out _ (HP.out.below hst3.bel)).mono ?_
  rintro e w5 ⟨v0, rfl, ho5, hb5⟩
  obtain ⟨a0, n0, c0, rfl⟩ := ho5.isSlice
  have hst5 := (hst3.pushOwn hb5 ho5).alloc #[.slice a0 n0 c0, .slice at1 n1 c1] 66
  obtain ⟨d0, d1⟩ := hst5.cel2
  clear hb5 HB hst3 ho5
  go_wp2_with (fail)
  go_at_call 31
  refine (HT.out _ _ (HDF.out _ _ _ hst5.get2.own hst5.bel)).mono ?_
  rintro e w6 ⟨v6, rfl, ho6, hb6⟩
  obtain ⟨a6, c6, rfl⟩ := ho6.isLen
  rw [List.length_map] at ho6 ⊢
  have hst6 := hst5.pushOwn hb6 ho6
  clear hb6 ho6 hst5 d0 d1
  have k2 := hst6.nth 5 rfl
  have k6 := hst6.nth 0 rfl
  have e2 := k2.own.tok (F := fun b => b < w6.heap.size) (fun b hb => (k2.fpOwn b hb).2) HXL.out
  have e6 := k6.own.tok (F := fun b => b < w6.heap.size) (fun b hb => (k6.fpOwn b hb).2) HXL.out
  have E2 := Lib.hid e2; have E6 := Lib.hid e6
  clear k2 k6 e2 e6
  go_wp2_with (fail)
  go_at_call 32
  refine (eqToks _ E2.out E6.out).mono ?_
  rintro e w7 ⟨rfl, hb7⟩
  have hst7 := hst6.call hb7
  clear hb7 hst6 E2 E6
  obtain ⟨z0, z1, z2⟩ := hst7.at3 4 rfl
  go_wp2_with (fail)
  go_ret
  exact ⟨by simp, hst7.bel⟩

set_option maxRecDepth 100000 in
set_option maxHeartbeats 8000000 in
theorem lexerSays_pos_hi (A : Array Value) (of : List Int) (next : List (List Int)) (tags : List Int) (vn vt : Value) (s : ByteArray) (hs : s.size ≤ 140737488355328) (f : Int) (w : World) (hp : PackedAt w A of next tags vn vt) (hle : Lx.err of next tags s.size = 0) (he : Pkd.err of next tags = 0) (hf0 : ¬ f < 0) (hf : (s.size : Int) < f) (hX2 : 0 ≤ (Lx.toks of next tags s.size s.data.toList 0 []).2) :
    Calls Try.prog 6 #[.agg A, .string s, .int .i64 f] w fun e w' => e = .returned (.bool true) ∧ Below w.heap.size w w' := by
  have hsz : (Try.prog.info? 55).map (·.size) = some A.size := by rw [hp.size]; kernel_rfl
  have HS := Lib.hid hsz; clear hsz
  obtain ⟨h2000, h200, hg⟩ := Lx.err_zero hle
  obtain ⟨at1, n1, c1, rfl⟩ : ∃ a n c, vt = .slice a n c := by obtain ⟨ao, _, _, cap, h1, _⟩ := hp.tagss; exact ⟨_, _, _, h1⟩
  have HP := Lib.hid hp; clear hp
  have HR := fun w' h => rpacked_any A of next tags vn (.slice at1 n1 c1) w' h
  have HL := fun w' h => lex_any A of next tags vn (.slice at1 n1 c1) s hs w' h
  have HG := Lib.hid hg
  have HW := Lib.hid (fun w' h => wide_ok A of next tags vn (.slice at1 n1 c1) w' h h200 hg)
  have HT := fun v w' h => tokens_any v of next tags s h2000 w' h hg h200
  have HDF : Hid (∀ (v0 : Value) (w' : World) B, Own w' B 137 256 v0 ((Wd.rows of next next.length).map Wd.rowV) → Below w.heap.size w w' → DfaAt w' (.agg #[v0, .slice at1 n1 c1]) (Wd.rows of next next.length) tags) :=
    Lib.hid (fun v0 w' B ho hb => ⟨v0, _, rfl, Wd.sl ho (Wd.rows_wf of next tags hg h200 (fun c hc => (HP.out.of_wf c hc).1)), HP.out.tagss.call hb (fun _ _ h => h)⟩)
  have hXl := Lx.toks_len (of := of) (next := next) (tags := tags) s.size s.data.toList 0 []
  have HO := Lib.hid (fun w' h => lexOne_arg A of next tags vn (.slice at1 n1 c1) s hs w' h f hle (.inr ⟨hf0, hf⟩))
  generalize hX : Lx.toks of next tags s.size s.data.toList 0 [] = X at *
  obtain ⟨XL, X2⟩ := X
  simp only at hX2 hXl
  rw [hle] at HL
  rw [he] at HR
  unfold Lx.RetLex at HL
  unfold Lx.RetTok at HT
  simp only [true_and, if_true, hX2, if_true] at HL HT
  have hq : (X2 != X2) = false := by rw [bne_eq_false_iff_eq]
  have hmx : ¬ (0 : Int) > X2 := by omega
  have hXL : (XL.length : Int) * 24 ≤ 140737488355328 := by simp at hXl; omega
  replace HR := Lib.hid HR; replace HL := Lib.hid HL; replace HT := Lib.hid HT
  have HXL := Lib.hid hXL
  clear he hle hg hX hXl hXL
  have hst := (St.init w).alloc A 55
  have HA := Lib.hid hst.celHeap
  go_enter Try.func6, Try.ntmps6
  go_wp2_with (first
    | (refine wpList_load_row rfl 55 (.tmp 3) rfl w.heap.size rfl 55 A (0, 0) _ HA.out Try.underlying55 rfl HS.out ?_)
    | fail)
  go_at_call 27
  refine (HR.out _ (HP.out.below hst.bel)).mono ?_
  rintro e w1 ⟨rfl, hb1⟩
  replace hst := hst.call hb1
  have HB := Lib.hid hst.celHeap
  clear hb1 HA
  go_wp2_with (first
    | (refine wpList_load_row rfl 55 (.tmp 3) rfl w.heap.size rfl 55 A (0, 0) _ HB.out Try.underlying55 rfl HS.out ?_)
    | fail)
  go_at_call 28
  refine (HL.out _ (HP.out.below hst.bel)).mono ?_
  rintro e w2 ⟨v2, rfl, ho2, hb2⟩
  obtain ⟨a2, c2, rfl⟩ := ho2.isLen
  rw [List.length_map] at ho2 ⊢
  have hst2 := (hst.pushOwn hb2 ho2).get2
  have HC := Lib.hid hst2.celHeap
  clear hb2 HB ho2 hst
  go_wp2_with (first
    | (refine wpList_load_row rfl 55 (.tmp 3) rfl w.heap.size rfl 55 A (0, 0) _ HC.out Try.underlying55 rfl HS.out ?_)
    | fail)
  go_at_call 29
  refine (HO.out _ (HP.out.below hst2.bel)).mono ?_
  rintro e w3 ⟨rfl, hb3⟩
  have hst3 := ((hst2.call hb3).alloc #[.int .i64 0, .int .i64 0, .int .i64 0] 61).get2
  have HB := Lib.hid hst3.celHeap
  clear hb3 HC hst2
  go_wp2_with (first
    | (refine wpList_load_row rfl 55 (.tmp 3) rfl w.heap.size rfl 55 A (0, 0) _ HB.out Try.underlying55 rfl HS.out ?_)
    | fail)
  go_at_call 30
  refine (HW.out _ (HP.out.below hst3.bel)).mono ?_
  rintro e w5 ⟨v0, rfl, ho5, hb5⟩
  obtain ⟨a0, n0, c0, rfl⟩ := ho5.isSlice
  have hst5 := (hst3.pushOwn hb5 ho5).alloc #[.slice a0 n0 c0, .slice at1 n1 c1] 66
  obtain ⟨d0, d1⟩ := hst5.cel2
  clear hb5 HB hst3 ho5
  go_wp2_with (fail)
  go_at_call 31
  refine (HT.out _ _ (HDF.out _ _ _ hst5.get2.own hst5.bel)).mono ?_
  rintro e w6 ⟨v6, rfl, ho6, hb6⟩
  obtain ⟨a6, c6, rfl⟩ := ho6.isLen
  rw [List.length_map] at ho6 ⊢
  have hst6 := hst5.pushOwn hb6 ho6
  clear hb6 ho6 hst5 d0 d1
  have k2 := hst6.nth 5 rfl
  have k6 := hst6.nth 0 rfl
  have e2 := k2.own.tok (F := fun b => b < w6.heap.size) (fun b hb => (k2.fpOwn b hb).2) HXL.out
  have e6 := k6.own.tok (F := fun b => b < w6.heap.size) (fun b hb => (k6.fpOwn b hb).2) HXL.out
  have E2 := Lib.hid e2; have E6 := Lib.hid e6
  clear k2 k6 e2 e6
  go_wp2_with (fail)
  go_at_call 32
  refine (eqToks _ E2.out E6.out).mono ?_
  rintro e w7 ⟨rfl, hb7⟩
  have hst7 := hst6.call hb7
  clear hb7 hst6 E2 E6
  obtain ⟨z0, z1, z2⟩ := hst7.at3 4 rfl
  go_wp2_with (fail)
  go_ret
  exact ⟨by simp, hst7.bel⟩

set_option maxRecDepth 100000 in
set_option maxHeartbeats 8000000 in
theorem lexerSays_pos_no (A : Array Value) (of : List Int) (next : List (List Int)) (tags : List Int) (vn vt : Value) (s : ByteArray) (hs : s.size ≤ 140737488355328) (f : Int) (w : World) (hp : PackedAt w A of next tags vn vt) (hle : Lx.err of next tags s.size = 0) (he : Pkd.err of next tags = 0) (n : Nat) (hn : f = n) (hf : n ≤ s.size) (hx : (Lx.longest of next tags (s.data.toList.drop n)).2 = 0) (hX2 : 0 ≤ (Lx.toks of next tags s.size s.data.toList 0 []).2) :
    Calls Try.prog 6 #[.agg A, .string s, .int .i64 f] w fun e w' => e = .returned (.bool true) ∧ Below w.heap.size w w' := by
  have hsz : (Try.prog.info? 55).map (·.size) = some A.size := by rw [hp.size]; kernel_rfl
  have HS := Lib.hid hsz; clear hsz
  obtain ⟨h2000, h200, hg⟩ := Lx.err_zero hle
  obtain ⟨at1, n1, c1, rfl⟩ : ∃ a n c, vt = .slice a n c := by obtain ⟨ao, _, _, cap, h1, _⟩ := hp.tagss; exact ⟨_, _, _, h1⟩
  have HP := Lib.hid hp; clear hp
  have HR := fun w' h => rpacked_any A of next tags vn (.slice at1 n1 c1) w' h
  have HL := fun w' h => lex_any A of next tags vn (.slice at1 n1 c1) s hs w' h
  have HG := Lib.hid hg
  have HW := Lib.hid (fun w' h => wide_ok A of next tags vn (.slice at1 n1 c1) w' h h200 hg)
  have HT := fun v w' h => tokens_any v of next tags s h2000 w' h hg h200
  have HDF : Hid (∀ (v0 : Value) (w' : World) B, Own w' B 137 256 v0 ((Wd.rows of next next.length).map Wd.rowV) → Below w.heap.size w w' → DfaAt w' (.agg #[v0, .slice at1 n1 c1]) (Wd.rows of next next.length) tags) :=
    Lib.hid (fun v0 w' B ho hb => ⟨v0, _, rfl, Wd.sl ho (Wd.rows_wf of next tags hg h200 (fun c hc => (HP.out.of_wf c hc).1)), HP.out.tagss.call hb (fun _ _ h => h)⟩)
  have hXl := Lx.toks_len (of := of) (next := next) (tags := tags) s.size s.data.toList 0 []
  subst hn
  have hLO := fun v w' h => longest_any v of next tags (s.extract n s.size) (by rw [ByteArray.size_extract]; omega) w' h hg h200
  rw [Lib.extract_to_end] at hLO
  generalize hxx : Lx.longest of next tags (s.data.toList.drop n) = x at *
  have HO := fun w' h => lexOne_ok A of next tags vn (.slice at1 n1 c1) s hs w' h n hf hle x hxx
  rw [if_pos hx] at HO
  rw [hx] at hLO
  have HLO := Lib.hid hLO
  replace HO := Lib.hid HO
  clear hLO hxx hx
  have hf0 : ¬ (n : Int) < 0 := by omega
  have hf1 : ¬ (s.size : Int) < n := by omega
  generalize hX : Lx.toks of next tags s.size s.data.toList 0 [] = X at *
  obtain ⟨XL, X2⟩ := X
  simp only at hX2 hXl
  rw [hle] at HL
  rw [he] at HR
  unfold Lx.RetLex at HL
  unfold Lx.RetTok at HT
  simp only [true_and, if_true, hX2, if_true] at HL HT
  have hq : (X2 != X2) = false := by rw [bne_eq_false_iff_eq]
  have hmx : ¬ (0 : Int) > X2 := by omega
  have hXL : (XL.length : Int) * 24 ≤ 140737488355328 := by simp at hXl; omega
  replace HR := Lib.hid HR; replace HL := Lib.hid HL; replace HT := Lib.hid HT
  have HXL := Lib.hid hXL
  clear he hle hg hX hXl hXL
  have hst := (St.init w).alloc A 55
  have HA := Lib.hid hst.celHeap
  go_enter Try.func6, Try.ntmps6
  go_wp2_with (first
    | (refine wpList_load_row rfl 55 (.tmp 3) rfl w.heap.size rfl 55 A (0, 0) _ HA.out Try.underlying55 rfl HS.out ?_)
    | fail)
  go_at_call 27
  refine (HR.out _ (HP.out.below hst.bel)).mono ?_
  rintro e w1 ⟨rfl, hb1⟩
  replace hst := hst.call hb1
  have HB := Lib.hid hst.celHeap
  clear hb1 HA
  go_wp2_with (first
    | (refine wpList_load_row rfl 55 (.tmp 3) rfl w.heap.size rfl 55 A (0, 0) _ HB.out Try.underlying55 rfl HS.out ?_)
    | fail)
  go_at_call 28
  refine (HL.out _ (HP.out.below hst.bel)).mono ?_
  rintro e w2 ⟨v2, rfl, ho2, hb2⟩
  obtain ⟨a2, c2, rfl⟩ := ho2.isLen
  rw [List.length_map] at ho2 ⊢
  have hst2 := (hst.pushOwn hb2 ho2).get2
  have HC := Lib.hid hst2.celHeap
  clear hb2 HB ho2 hst
  go_wp2_with (first
    | (refine wpList_load_row rfl 55 (.tmp 3) rfl w.heap.size rfl 55 A (0, 0) _ HC.out Try.underlying55 rfl HS.out ?_)
    | fail)
  go_at_call 29
  refine (HO.out _ (HP.out.below hst2.bel)).mono ?_
  rintro e w3 ⟨rfl, hb3⟩
  have hst3 := ((hst2.call hb3).alloc #[.int .i64 0, .int .i64 0, .int .i64 0] 61).get2
  have HB := Lib.hid hst3.celHeap
  clear hb3 HC hst2
  go_wp2_with (first
    | (refine wpList_load_row rfl 55 (.tmp 3) rfl w.heap.size rfl 55 A (0, 0) _ HB.out Try.underlying55 rfl HS.out ?_)
    | fail)
  go_at_call 30
  refine (HW.out _ (HP.out.below hst3.bel)).mono ?_
  rintro e w5 ⟨v0, rfl, ho5, hb5⟩
  obtain ⟨a0, n0, c0, rfl⟩ := ho5.isSlice
  have hst5 := (hst3.pushOwn hb5 ho5).alloc #[.slice a0 n0 c0, .slice at1 n1 c1] 66
  obtain ⟨d0, d1⟩ := hst5.cel2
  clear hb5 HB hst3 ho5
  go_wp2_with (fail)
  go_at_call 31
  refine (HT.out _ _ (HDF.out _ _ _ hst5.get2.own hst5.bel)).mono ?_
  rintro e w6 ⟨v6, rfl, ho6, hb6⟩
  obtain ⟨a6, c6, rfl⟩ := ho6.isLen
  rw [List.length_map] at ho6 ⊢
  have hst6 := hst5.pushOwn hb6 ho6
  clear hb6 ho6 hst5 d0 d1
  have k2 := hst6.nth 5 rfl
  have k6 := hst6.nth 0 rfl
  have e2 := k2.own.tok (F := fun b => b < w6.heap.size) (fun b hb => (k2.fpOwn b hb).2) HXL.out
  have e6 := k6.own.tok (F := fun b => b < w6.heap.size) (fun b hb => (k6.fpOwn b hb).2) HXL.out
  have E2 := Lib.hid e2; have E6 := Lib.hid e6
  clear k2 k6 e2 e6
  go_wp2_with (fail)
  go_at_call 32
  refine (eqToks _ E2.out E6.out).mono ?_
  rintro e w7 ⟨rfl, hb7⟩
  have hst7 := hst6.call hb7
  clear hb7 hst6 E2 E6
  obtain ⟨z0, z1, z2⟩ := hst7.at3 4 rfl
  have HK : Hid (∀ w', St w w' [aOwn 61 3 (.slice a6 XL.length c6) (XL.map tokV), aCel w5.heap.size 66 #[.slice a0 n0 c0, .slice at1 n1 c1], aOwn 137 256 (.slice a0 n0 c0) ((Wd.rows of next next.length).map Wd.rowV), aCel w.heap.size 55 A, aCel w3.heap.size 61 #[.int .i64 0, .int .i64 0, .int .i64 0], aOwn 61 3 (.slice a2 XL.length c2) (XL.map tokV)] → w'.cell? ⟨w5.heap.size, 0, none⟩ = some (.slice a0 n0 c0) ∧ w'.cell? ⟨w5.heap.size, 1, none⟩ = some (.slice at1 n1 c1) ∧ St w w' [aOwn 61 3 (.slice a6 XL.length c6) (XL.map tokV), aCel w5.heap.size 66 #[.slice a0 n0 c0, .slice at1 n1 c1], aOwn 137 256 (.slice a0 n0 c0) ((Wd.rows of next next.length).map Wd.rowV), aCel w.heap.size 55 A, aCel w3.heap.size 61 #[.int .i64 0, .int .i64 0, .int .i64 0], aOwn 61 3 (.slice a2 XL.length c2) (XL.map tokV)]) := Lib.hid (fun w' h => ⟨(h.at2 1 rfl).1, (h.at2 1 rfl).2, h⟩)
  have HST := Lib.hid hst7
  clear hst7
  go_wp2_with (fail)
  go_region_held3 (fun w' => w'.cell? ⟨w5.heap.size, 0, none⟩ = some (.slice a0 n0 c0) ∧ w'.cell? ⟨w5.heap.size, 1, none⟩ = some (.slice at1 n1 c1) ∧ St w w' [aOwn 61 3 (.slice a6 XL.length c6) (XL.map tokV), aCel w5.heap.size 66 #[.slice a0 n0 c0, .slice at1 n1 c1], aOwn 137 256 (.slice a0 n0 c0) ((Wd.rows of next next.length).map Wd.rowV), aCel w.heap.size 55 A, aCel w3.heap.size 61 #[.int .i64 0, .int .i64 0, .int .i64 0], aOwn 61 3 (.slice a2 XL.length c2) (XL.map tokV)]) (first | exact HK.out _ HST.out.drew | exact HK.out _ HST2)
    ((go_at_call 33; have hh := ‹_ ∧ _ ∧ St w _ _›; refine (HLO.out _ _ (HDF.out _ _ _ (hh.2.2.ownAt 2 rfl) hh.2.2.bel)).mono ?_; rintro e w8 ⟨rfl, hb8⟩; have HST2 := hh.2.2.call hb8; clear hh hb8))
  have hst8 := (‹_ ∧ _ ∧ St w _ _›).2.2
  clear HST HK z0 z1 z2
  obtain ⟨z0, z1, z2⟩ := hst8.at3 4 rfl
  go_wp2_with (fail)
  go_ret
  exact ⟨by simp, hst8.bel⟩

set_option maxRecDepth 100000 in
set_option maxHeartbeats 8000000 in
theorem lexerSays_pos_yes (A : Array Value) (of : List Int) (next : List (List Int)) (tags : List Int) (vn vt : Value) (s : ByteArray) (hs : s.size ≤ 140737488355328) (f : Int) (w : World) (hp : PackedAt w A of next tags vn vt) (hle : Lx.err of next tags s.size = 0) (he : Pkd.err of next tags = 0) (n : Nat) (hn : f = n) (hf : n ≤ s.size) (hx : (Lx.longest of next tags (s.data.toList.drop n)).2 ≠ 0) (hX2 : 0 ≤ (Lx.toks of next tags s.size s.data.toList 0 []).2) :
    Calls Try.prog 6 #[.agg A, .string s, .int .i64 f] w fun e w' => e = .returned (.bool true) ∧ Below w.heap.size w w' := by
  have hsz : (Try.prog.info? 55).map (·.size) = some A.size := by rw [hp.size]; kernel_rfl
  have HS := Lib.hid hsz; clear hsz
  obtain ⟨h2000, h200, hg⟩ := Lx.err_zero hle
  obtain ⟨at1, n1, c1, rfl⟩ : ∃ a n c, vt = .slice a n c := by obtain ⟨ao, _, _, cap, h1, _⟩ := hp.tagss; exact ⟨_, _, _, h1⟩
  have HP := Lib.hid hp; clear hp
  have HR := fun w' h => rpacked_any A of next tags vn (.slice at1 n1 c1) w' h
  have HL := fun w' h => lex_any A of next tags vn (.slice at1 n1 c1) s hs w' h
  have HG := Lib.hid hg
  have HW := Lib.hid (fun w' h => wide_ok A of next tags vn (.slice at1 n1 c1) w' h h200 hg)
  have HT := fun v w' h => tokens_any v of next tags s h2000 w' h hg h200
  have HDF : Hid (∀ (v0 : Value) (w' : World) B, Own w' B 137 256 v0 ((Wd.rows of next next.length).map Wd.rowV) → Below w.heap.size w w' → DfaAt w' (.agg #[v0, .slice at1 n1 c1]) (Wd.rows of next next.length) tags) :=
    Lib.hid (fun v0 w' B ho hb => ⟨v0, _, rfl, Wd.sl ho (Wd.rows_wf of next tags hg h200 (fun c hc => (HP.out.of_wf c hc).1)), HP.out.tagss.call hb (fun _ _ h => h)⟩)
  have hXl := Lx.toks_len (of := of) (next := next) (tags := tags) s.size s.data.toList 0 []
  subst hn
  have hLO := fun v w' h => longest_any v of next tags (s.extract n s.size) (by rw [ByteArray.size_extract]; omega) w' h hg h200
  rw [Lib.extract_to_end] at hLO
  generalize hxx : Lx.longest of next tags (s.data.toList.drop n) = x at *
  have HO := fun w' h => lexOne_ok A of next tags vn (.slice at1 n1 c1) s hs w' h n hf hle x hxx
  rw [if_neg hx] at HO
  have hlx := Lx.longest_in of next tags (s.data.toList.drop n)
  rw [hxx, List.length_drop] at hlx
  simp only [Array.length_toList, ByteArray.size_data] at hlx
  obtain ⟨hlx0, hlx1⟩ := hlx
  have hxz : (x.2 == 0) = false := by rw [beq_eq_false_iff_ne]; exact hx
  have HLO := Lib.hid hLO
  replace HO := Lib.hid HO
  clear hLO hxx hx
  have hf0 : ¬ (n : Int) < 0 := by omega
  have hf1 : ¬ (s.size : Int) < n := by omega
  generalize hX : Lx.toks of next tags s.size s.data.toList 0 [] = X at *
  obtain ⟨XL, X2⟩ := X
  simp only at hX2 hXl
  rw [hle] at HL
  rw [he] at HR
  unfold Lx.RetLex at HL
  unfold Lx.RetTok at HT
  simp only [true_and, if_true, hX2, if_true] at HL HT
  have hq : (X2 != X2) = false := by rw [bne_eq_false_iff_eq]
  have hmx : ¬ (0 : Int) > X2 := by omega
  have hXL : (XL.length : Int) * 24 ≤ 140737488355328 := by simp at hXl; omega
  replace HR := Lib.hid HR; replace HL := Lib.hid HL; replace HT := Lib.hid HT
  have HXL := Lib.hid hXL
  clear he hle hg hX hXl hXL
  have hst := (St.init w).alloc A 55
  have HA := Lib.hid hst.celHeap
  go_enter Try.func6, Try.ntmps6
  go_wp2_with (first
    | (refine wpList_load_row rfl 55 (.tmp 3) rfl w.heap.size rfl 55 A (0, 0) _ HA.out Try.underlying55 rfl HS.out ?_)
    | fail)
  go_at_call 27
  refine (HR.out _ (HP.out.below hst.bel)).mono ?_
  rintro e w1 ⟨rfl, hb1⟩
  replace hst := hst.call hb1
  have HB := Lib.hid hst.celHeap
  clear hb1 HA
  go_wp2_with (first
    | (refine wpList_load_row rfl 55 (.tmp 3) rfl w.heap.size rfl 55 A (0, 0) _ HB.out Try.underlying55 rfl HS.out ?_)
    | fail)
  go_at_call 28
  refine (HL.out _ (HP.out.below hst.bel)).mono ?_
  rintro e w2 ⟨v2, rfl, ho2, hb2⟩
  obtain ⟨a2, c2, rfl⟩ := ho2.isLen
  rw [List.length_map] at ho2 ⊢
  have hst2 := (hst.pushOwn hb2 ho2).get2
  have HC := Lib.hid hst2.celHeap
  clear hb2 HB ho2 hst
  go_wp2_with (first
    | (refine wpList_load_row rfl 55 (.tmp 3) rfl w.heap.size rfl 55 A (0, 0) _ HC.out Try.underlying55 rfl HS.out ?_)
    | fail)
  go_at_call 29
  refine (HO.out _ (HP.out.below hst2.bel)).mono ?_
  rintro e w3 ⟨rfl, hb3⟩
  have hst3 := ((hst2.call hb3).alloc #[.int .i64 x.1, .int .i64 n, .int .i64 (n + x.2)] 61).get2
  have HB := Lib.hid hst3.celHeap
  clear hb3 HC hst2
  go_wp2_with (first
    | (refine wpList_load_row rfl 55 (.tmp 3) rfl w.heap.size rfl 55 A (0, 0) _ HB.out Try.underlying55 rfl HS.out ?_)
    | fail)
  go_at_call 30
  refine (HW.out _ (HP.out.below hst3.bel)).mono ?_
  rintro e w5 ⟨v0, rfl, ho5, hb5⟩
  obtain ⟨a0, n0, c0, rfl⟩ := ho5.isSlice
  have hst5 := (hst3.pushOwn hb5 ho5).alloc #[.slice a0 n0 c0, .slice at1 n1 c1] 66
  obtain ⟨d0, d1⟩ := hst5.cel2
  clear hb5 HB hst3 ho5
  go_wp2_with (fail)
  go_at_call 31
  refine (HT.out _ _ (HDF.out _ _ _ hst5.get2.own hst5.bel)).mono ?_
  rintro e w6 ⟨v6, rfl, ho6, hb6⟩
  obtain ⟨a6, c6, rfl⟩ := ho6.isLen
  rw [List.length_map] at ho6 ⊢
  have hst6 := hst5.pushOwn hb6 ho6
  clear hb6 ho6 hst5 d0 d1
  have k2 := hst6.nth 5 rfl
  have k6 := hst6.nth 0 rfl
  have e2 := k2.own.tok (F := fun b => b < w6.heap.size) (fun b hb => (k2.fpOwn b hb).2) HXL.out
  have e6 := k6.own.tok (F := fun b => b < w6.heap.size) (fun b hb => (k6.fpOwn b hb).2) HXL.out
  have E2 := Lib.hid e2; have E6 := Lib.hid e6
  clear k2 k6 e2 e6
  go_wp2_with (fail)
  go_at_call 32
  refine (eqToks _ E2.out E6.out).mono ?_
  rintro e w7 ⟨rfl, hb7⟩
  have hst7 := hst6.call hb7
  clear hb7 hst6 E2 E6
  obtain ⟨z0, z1, z2⟩ := hst7.at3 4 rfl
  have HK : Hid (∀ w', St w w' [aOwn 61 3 (.slice a6 XL.length c6) (XL.map tokV), aCel w5.heap.size 66 #[.slice a0 n0 c0, .slice at1 n1 c1], aOwn 137 256 (.slice a0 n0 c0) ((Wd.rows of next next.length).map Wd.rowV), aCel w.heap.size 55 A, aCel w3.heap.size 61 #[.int .i64 x.1, .int .i64 n, .int .i64 (n + x.2)], aOwn 61 3 (.slice a2 XL.length c2) (XL.map tokV)] → w'.cell? ⟨w5.heap.size, 0, none⟩ = some (.slice a0 n0 c0) ∧ w'.cell? ⟨w5.heap.size, 1, none⟩ = some (.slice at1 n1 c1) ∧ St w w' [aOwn 61 3 (.slice a6 XL.length c6) (XL.map tokV), aCel w5.heap.size 66 #[.slice a0 n0 c0, .slice at1 n1 c1], aOwn 137 256 (.slice a0 n0 c0) ((Wd.rows of next next.length).map Wd.rowV), aCel w.heap.size 55 A, aCel w3.heap.size 61 #[.int .i64 x.1, .int .i64 n, .int .i64 (n + x.2)], aOwn 61 3 (.slice a2 XL.length c2) (XL.map tokV)]) := Lib.hid (fun w' h => ⟨(h.at2 1 rfl).1, (h.at2 1 rfl).2, h⟩)
  have HST := Lib.hid hst7
  clear hst7
  go_wp2_with (fail)
  go_region_held3 (fun w' => w'.cell? ⟨w5.heap.size, 0, none⟩ = some (.slice a0 n0 c0) ∧ w'.cell? ⟨w5.heap.size, 1, none⟩ = some (.slice at1 n1 c1) ∧ St w w' [aOwn 61 3 (.slice a6 XL.length c6) (XL.map tokV), aCel w5.heap.size 66 #[.slice a0 n0 c0, .slice at1 n1 c1], aOwn 137 256 (.slice a0 n0 c0) ((Wd.rows of next next.length).map Wd.rowV), aCel w.heap.size 55 A, aCel w3.heap.size 61 #[.int .i64 x.1, .int .i64 n, .int .i64 (n + x.2)], aOwn 61 3 (.slice a2 XL.length c2) (XL.map tokV)]) (first | exact HK.out _ HST.out.drew | exact HK.out _ HST2)
    ((go_at_call 33; have hh := ‹_ ∧ _ ∧ St w _ _›; refine (HLO.out _ _ (HDF.out _ _ _ (hh.2.2.ownAt 2 rfl) hh.2.2.bel)).mono ?_; rintro e w8 ⟨rfl, hb8⟩; have HST2 := hh.2.2.call hb8; clear hh hb8))
  have hst8 := (‹_ ∧ _ ∧ St w _ _›).2.2
  clear HST HK z0 z1 z2
  obtain ⟨z0, z1, z2⟩ := hst8.at3 4 rfl
  go_wp2_with (fail)
  go_ret
  exact ⟨by simp, hst8.bel⟩

end Go.Proofs.Ytkgpipokfoadiaa
