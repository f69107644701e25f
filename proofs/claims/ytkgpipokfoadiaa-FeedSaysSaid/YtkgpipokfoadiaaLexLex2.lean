/-
  Lex of package lexer: what it computes.
-/
import Derived.Test.YtkgpipokfoadiaaLexLex
import Derived.Deep.RegionLaw
namespace Go.Proofs.Ytkgpipokfoadiaa
set_option linter.unusedVariables false
open Go.ChangeShapes Go.WideShapes Go.ChangeAt Go.RowKit

namespace Lx
def RetLex (E : Int) (x : List (Int × Int × Int) × Int) (w : World) (e : Ending) (w' : World) : Prop :=
  ∃ v, e = .returned (.tuple #[v, .int .i64 (if E = 0 ∧ 0 ≤ x.2 then x.2 else 0), .int .i64 (if E = 0 then if 0 ≤ x.2 then 9 else 0 else E)]) ∧ Own w' w.heap.size 61 3 v (if E = 0 then x.1.map tokV else []) ∧ Below w.heap.size w w'
theorem toks_in {of next tags} (n : Nat) (l : List UInt8) (k : Int) (hk : 0 ≤ k) (out) : -1 ≤ (toks of next tags n l k out).2 ∧ ((toks of next tags n l k out).2 ≤ k + l.length) := by
  induction n generalizing l k out with
  | zero => simp only [toks]; omega
  | succ n ih =>
    by_cases h : l = []
    · subst h; rw [toks_end]; simp; omega
    · by_cases h1 : (longest of next tags l).2 = 0
      · rw [toks_bad h h1]; simp; omega
      · rw [toks_step h h1]
        have h2 := longest_in of next tags l
        have h3 := ih (l.drop (longest of next tags l).2.toNat) (k + (longest of next tags l).2) (by omega) (out ++ [((longest of next tags l).1, k, k + (longest of next tags l).2)])
        rw [List.length_drop] at h3
        omega
/-- The loop of Lex. -/
def LexRel (of : List Int) (next : List (List Int)) (tags : List Int) (s : ByteArray) (X : List (Int × Int × Int) × Int) (w : World) (A : Array Value) (o i : Value) (wr : World) : Prop :=
  ∃ (k n : Nat) (out : List (Int × Int × Int)), k ≤ s.size ∧ s.size ≤ k + n ∧ out.length ≤ k ∧ i = .int .i64 k ∧ St w wr [aOwn 61 3 o (out.map tokV), aCel w.heap.size 55 A] ∧ Hid (toks of next tags n (s.data.toList.drop k) k out = X)
end Lx

set_option maxRecDepth 100000 in
set_option maxHeartbeats 4000000 in
theorem lex_any (A : Array Value) (of : List Int) (next : List (List Int)) (tags : List Int) (vn vt : Value) (s : ByteArray) (hs : s.size ≤ 140737488355328) (w : World) (hp : PackedAt w A of next tags vn vt) :
    Calls Try.prog 28 #[.agg A, .string s] w (Lx.RetLex (Lx.err of next tags s.size) (Lx.toks of next tags s.size s.data.toList 0 []) w) := by
  have hsz : (Try.prog.info? 55).map (·.size) = some A.size := by rw [hp.size]; kernel_rfl
  have HS := Lib.hid hsz; clear hsz
  have hst := (St.init w).alloc A 55
  have HP := Lib.hid hp; clear hp
  have HA := Lib.hid hst.celHeap
  have HST := Lib.hid hst; clear hst
  have HCK := Lib.hid (fun w' h => lexCheck_any A of next tags vn vt s hs w' h)
  have HON : Hid (Lx.err of next tags s.size = 0 → ∀ (f : Nat) (hf : f ≤ s.size) w' (h : PackedAt w' A of next tags vn vt), Calls Try.prog 78 #[.agg A, .string s, .int .i64 f] w' fun e w'' => e = .returned (Lx.oneV (Lx.longest of next tags (s.data.toList.drop f)) f) ∧ Below w'.heap.size w' w'') :=
    Lib.hid (fun h0 f hf w' h => one_any A of next tags vn vt s hs f hf w' h (Lx.err_zero h0).2.2)
  have HZ : Hid (Lx.err of next tags s.size = 0 → s.size ≤ 2000) := Lib.hid (fun h => (Lx.err_zero h).1)
  generalize hX : Lx.toks of next tags s.size s.data.toList 0 [] = X
  have HX : Hid (Lx.toks of next tags s.size (s.data.toList.drop 0) 0 [] = X) := Lib.hid (by rw [← hX, List.drop_zero])
  clear hX
  generalize hE : Lx.err of next tags s.size = E at *
  clear hE
  by_cases h0 : E = 0
  case neg =>
    have H0 : (E != 0) = true := by rw [bne_iff_ne]; exact h0
    have HE := Lib.hid h0; clear h0
    go_enter Try.func28, Try.ntmps28
    go_wp2_with (first
      | (refine wpList_load_row rfl 55 (.tmp 2) rfl w.heap.size rfl 55 A (0, 0) _ HA.out Try.underlying55 rfl HS.out ?_)
      | (go_at_call 77; refine (HCK.out _ (HP.out.below HST.out.bel)).mono ?_; rintro e w1 ⟨rfl, hb1⟩))
    refine bodyPost_ret (v := .tuple #[.slice none 0 0, .int .i64 0, .int .i64 E]) (by simp [results, Try.results28, go_sem]) rfl ⟨.slice none 0 0, ?_, ?_, (HST.out.call hb1).bel⟩
    · rw [if_neg (by rw [not_and]; exact fun h => absurd h HE.out), if_neg HE.out]
    · rw [if_neg HE.out]; exact Own.nil _ _ _ _
  · subst h0
    have hs2 := HZ.out rfl
    go_enter Try.func28, Try.ntmps28
    go_wp2_with (first
      | (refine wpList_load_row rfl 55 (.tmp 2) rfl w.heap.size rfl 55 A (0, 0) _ HA.out Try.underlying55 rfl HS.out ?_)
      | (go_at_call 77; refine (HCK.out _ (HP.out.below HST.out.bel)).mono ?_; rintro e w1 ⟨rfl, hb1⟩))
    have hst := (HST.out.call hb1).nilOwn 61 3
    clear hb1
    go_loopw [8, 9] (fun o i wr => Lx.LexRel of next tags s X w A o i wr) (fun _ i _ => s.size - (intOf i).toNat)
    case atStart => exact ⟨0, s.size, [], by omega, by omega, by simp, rfl, hst, HX⟩
    case round =>
      clear hst HX
      obtain ⟨k, n, out, hk, hkn, hol, rfl, hst, htk⟩ := hrel
      by_cases hlt : k < s.size
      · obtain ⟨m, rfl⟩ : ∃ m, n = m + 1 := ⟨n - 1, by omega⟩
        have hne : s.data.toList.drop k ≠ [] := by rw [bytes_drop s k hlt]; simp
        have hlin := Lx.longest_in of next tags (s.data.toList.drop k)
        rw [List.length_drop] at hlin
        simp only [Array.length_toList, ByteArray.size_data] at hlin
        have hon := HON.out trivial k hk
        generalize hy : Lx.longest of next tags (s.data.toList.drop k) = y at *
        have HY := Lib.hid hy
        have HTK := Lib.hid htk.out
        have HNE := Lib.hid hne
        have HO := Lib.hid hon
        clear hy htk hne hon
        obtain ⟨y1, y2⟩ := y
        obtain ⟨hl0, hl1⟩ := hlin
        simp only at hl0 hl1
        have HB := Lib.hid hst.get2.celHeap
        go_wp2_with (first
          | (refine wpList_load_row rfl 55 (.tmp 2) rfl w.heap.size rfl 55 A (0, 0) _ HB.out Try.underlying55 rfl HS.out ?_)
          | fail)
        go_at_call 78
        refine (HO.out _ (HP.out.below hst.bel)).mono ?_
        rintro e w3 ⟨rfl, hb3⟩
        replace hst := hst.call hb3
        clear hb3
        have htk := HTK.out
        by_cases hz : y2 = 0
        · subst hz
          rw [Lx.toks_bad HNE.out (by rw [HY.out])] at htk
          subst htk
          rw [Lx.oneV_no rfl]
          go_wp2
          refine bodyPost_ret (v := .tuple #[u8, .int .i64 k, .int .i64 9]) (by simp [results, Try.results28, go_sem]) rfl ⟨u8, ?_, ?_, (hst.skip _).bel⟩
          · rw [if_pos ⟨rfl, by simp⟩, if_pos rfl, if_pos (by simp)]
          · rw [if_pos rfl]; exact (hst.skip _).own
        · rw [Lx.toks_step HNE.out (by rw [HY.out]; exact hz), HY.out] at htk
          simp only at htk
          rw [Lx.oneV_yes hz]
          obtain ⟨y2, rfl⟩ := Int.eq_ofNat_of_zero_le hl0
          have hpos : 0 < y2 := by omega
          rw [Int.toNat_natCast, List.drop_drop] at htk
          have HTK2 := Lib.hid htk
          clear htk hz
          simp only
          have hst2 := (hst.alloc #[.int .i64 y1, .int .i64 k, .int .i64 (k + y2)] 61).get2
          go_wp2
          generalize w3.alloc (.cells #[.int .i64 y1, .int .i64 k, .int .i64 (k + y2)] 61) = w4 at hst2 ⊢
          obtain ⟨z0, z1, z2, _, _, _⟩ := hst2.get2.cel3
          obtain ⟨x0, x1, x2, _, _, _⟩ := hst2.drew.get2.cel3
          have hlt4 := World.block_lt_of_cell? _ _ z0
          have y2' := fun o => (hst2.drew.skip o).get2.celAt (i := 2) rfl
          go_region_law ((refine St.step1n tokE (by rfl) (.tmp 33) (.tmp 35) (by rfl) (by rfl) hst2.drew (tokV (y1, (k : Int), (k : Int) + y2)) rfl _ 1 rfl (by simp) rfl (tok_one _) (by rw [List.length_map]; unfold maxLen; omega) (by rw [List.length_map]; omega) ?_; intro g3 n3 cap3 w5 hst3; obtain ⟨z0, z1, z2, _, _, _⟩ := hst3.get2.cel3))
          all_goals
            go_wp2
            go_roundw
            case rel =>
              have hrel : Lx.LexRel of next tags s X w A (.slice (some ⟨g3, 0, none⟩) n3 cap3) (.int .i64 (k + y2)) w5 := ⟨k + y2, m, out ++ [(y1, (k : Int), (k : Int) + y2)], by omega, by omega, by simp; omega, by go_num, by rw [List.map_append]; exact hst3.get2.drop, by rw [Int.natCast_add]; exact HTK2⟩
              first | exact hrel | exact ⟨_, _, _, _, _, hrel, rfl, rfl, rfl, rfl, rfl⟩
            case measure => simp [intOf]; omega
      · have htk2 := htk.out
        rw [bytes_end s k (by omega), Lx.toks_end] at htk2
        subst htk2
        clear htk
        go_wp2
        refine bodyPost_ret (v := .tuple #[u8, .int .i64 0, .int .i64 0]) (by simp [results, Try.results28, go_sem]) rfl ⟨u8, ?_, ?_, hst.bel⟩
        · rw [if_neg (by simp), if_pos rfl, if_neg (by simp)]
        · rw [if_pos rfl]; exact hst.own
end Go.Proofs.Ytkgpipokfoadiaa
