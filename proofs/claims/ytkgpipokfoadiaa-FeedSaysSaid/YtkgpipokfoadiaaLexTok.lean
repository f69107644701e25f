/-
  Tokens of the reference: what it computes.
-/
import Derived.Test.YtkgpipokfoadiaaLexLong
import Derived.Lib.IndexBytes
namespace Go.Proofs.Ytkgpipokfoadiaa
set_option linter.unusedVariables false
open Go.ChangeShapes Go.WideShapes Go.ChangeAt Go.RowKit

def tokV (x : Int × Int × Int) : Value := .agg #[.int .i64 x.1, .int .i64 x.2.1, .int .i64 x.2.2]
theorem tok_one (x : Int × Int × Int) : ∀ q ∈ (tokV x).cells.toList, q.oneCell' = true := by
  intro q hq; simp [tokV, Value.cells] at hq; rcases hq with rfl | rfl | rfl <;> rfl
theorem tokE : ET Try.prog 57 61 3 24 := ET.mk' Try.underlying57 (z := .agg #[.int .i64 0, .int .i64 0, .int .i64 0]) (by kernel_rfl) rfl (by decide)

namespace Lx
def RetTok (x : List (Int × Int × Int) × Int) (w : World) (e : Ending) (w' : World) : Prop := ∃ v, e = .returned (.tuple #[v, .int .i64 x.2]) ∧ Own w' w.heap.size 61 3 v (x.1.map tokV) ∧ Below w.heap.size w w'
end Lx

set_option maxRecDepth 100000 in
set_option maxHeartbeats 4000000 in
theorem tokens_any (v : Value) (of : List Int) (next : List (List Int)) (tags : List Int) (s : ByteArray) (hs : s.size ≤ 2000) (w : World) (hd : DfaAt w v (Wd.rows of next next.length) tags) (hg : Pkd.Good of next tags) (h200 : next.length ≤ 200) :
    Calls Try.prog 31 #[v, .string s] w (Lx.RetTok (Lx.toks of next tags s.size s.data.toList 0 []) w) := by
  have HD := Lib.hid hd
  have HLO : Hid (∀ (t : ByteArray) (w' : World), t.size ≤ 140737488355328 → DfaAt w' v (Wd.rows of next next.length) tags → Calls Try.prog 33 #[v, .string t] w' fun e w'' => e = .returned (.tuple #[.int .i64 (Lx.longest of next tags t.data.toList).1, .int .i64 (Lx.longest of next tags t.data.toList).2]) ∧ Below w'.heap.size w' w'') :=
    Lib.hid (fun t w' ht h => longest_any v of next tags t ht w' h hg h200)
  obtain ⟨v0, v1, rfl, hr, ht⟩ := hd
  obtain ⟨a0, n0, k0, rfl⟩ : ∃ a n c, v0 = .slice a n c := by obtain ⟨ao, _, _, cap, h1, _⟩ := hr; exact ⟨_, _, _, h1⟩
  obtain ⟨a1, n1, k1, rfl⟩ : ∃ a n c, v1 = .slice a n c := by obtain ⟨ao, _, _, cap, h1, _⟩ := ht; exact ⟨_, _, _, h1⟩
  clear hr ht hg
  generalize hX : Lx.toks of next tags s.size s.data.toList 0 [] = X
  have HX : Hid (Lx.toks of next tags s.size (s.data.toList.drop 0) 0 [] = X) := Lib.hid (by rw [← hX, List.drop_zero])
  clear hX
  have hst := ((St.init w).alloc #[.slice a0 n0 k0, .slice a1 n1 k1] 66).nilOwn 61 3
  go_enter Try.func31, Try.ntmps31
  go_wp2
  generalize w.alloc (.cells #[.slice a0 n0 k0, .slice a1 n1 k1] 66) = W at hst ⊢
  go_loopw [6, 7] (fun o i wr => ∃ (k n : Nat) (out : List (Int × Int × Int)), k ≤ s.size ∧ s.size ≤ k + n ∧ out.length ≤ k ∧ i = .int .i64 k ∧ St w wr [aOwn 61 3 o (out.map tokV), aCel w.heap.size 66 #[.slice a0 n0 k0, .slice a1 n1 k1]] ∧ Hid (Lx.toks of next tags n (s.data.toList.drop k) k out = X)) (fun _ i _ => s.size - (intOf i).toNat)
  case atStart => exact ⟨0, s.size, [], by omega, by omega, by simp, rfl, hst, HX⟩
  case round =>
    clear hst HX
    obtain ⟨k, n, out, hk, hkn, hol, rfl, hst, htk⟩ := hrel
    by_cases hlt : k < s.size
    · have d1 := hst.get2.celAt (i := 0) rfl
      have d2 := hst.get2.celAt (i := 1) rfl
      obtain ⟨m, rfl⟩ : ∃ m, n = m + 1 := ⟨n - 1, by omega⟩
      have hne : s.data.toList.drop k ≠ [] := by rw [bytes_drop s k hlt]; simp
      have htk2 := htk.out
      clear htk
      have hsl : (s.extract k s.size).data.toList = s.data.toList.drop k := Lib.extract_to_end s k
      have hsz : (s.extract k s.size).size ≤ 140737488355328 := by simp [ByteArray.size_extract]; omega
      have hlin := Lx.longest_in of next tags (s.data.toList.drop k)
      rw [List.length_drop] at hlin
      simp only [Array.length_toList, ByteArray.size_data] at hlin
      have HLC : Hid (∀ w', DfaAt w' _ _ _ → _) := Lib.hid (fun w' => HLO.out (s.extract k s.size) w' hsz)
      rw [hsl] at HLC
      generalize hy : Lx.longest of next tags (s.data.toList.drop k) = y at *
      have HY := Lib.hid hy
      have HTK := Lib.hid htk2
      have HNE := Lib.hid hne
      have HST := Lib.hid hst
      clear hy htk2 hne hsl hsz hst
      obtain ⟨y1, y2⟩ := y
      obtain ⟨hl0, hl1⟩ := hlin
      simp only at hl0 hl1
      go_wp2
      have HA : Hid (∀ w', St w w' [aOwn 61 3 u6 (out.map tokV), aCel w.heap.size 66 #[.slice a0 n0 k0, .slice a1 n1 k1]] → w'.cell? ⟨w.heap.size, 0, none⟩ = some (.slice a0 n0 k0) ∧ w'.cell? ⟨w.heap.size, 1, none⟩ = some (.slice a1 n1 k1) ∧ St w w' [aOwn 61 3 u6 (out.map tokV), aCel w.heap.size 66 #[.slice a0 n0 k0, .slice a1 n1 k1]]) := Lib.hid (fun w' h => ⟨h.get2.celAt (i := 0) rfl, h.get2.celAt (i := 1) rfl, h⟩)
      go_region_held3 (fun w' => w'.cell? ⟨w.heap.size, 0, none⟩ = some (.slice a0 n0 k0) ∧ w'.cell? ⟨w.heap.size, 1, none⟩ = some (.slice a1 n1 k1) ∧ St w w' [aOwn 61 3 u6 (out.map tokV), aCel w.heap.size 66 #[.slice a0 n0 k0, .slice a1 n1 k1]]) (first | exact HA.out _ HST.out.drew | exact HA.out _ HST2)
        ((go_at_call 33; have hh := ‹_ ∧ _ ∧ St w _ _›; refine (HLC.out _ (HD.out.below hh.2.2.bel)).mono ?_; rintro e w3 ⟨rfl, hb3⟩; have HST2 := hh.2.2.call hb3; clear hh hb3))
      have hst := (‹_ ∧ _ ∧ St w _ _›).2.2
      clear HST HA d1 d2
      have htk := HTK.out
      by_cases hz : y2 = 0
      · subst hz
        rw [Lx.toks_bad HNE.out (by rw [HY.out])] at htk
        subst htk
        go_wp2
        go_ret2
        exact ⟨_, rfl, hst.own, hst.bel⟩
      · rw [Lx.toks_step HNE.out (by rw [HY.out]; exact hz), HY.out] at htk
        simp only at htk
        have hz1 : ((y2 : Int) == 0) = false := by rw [beq_eq_false_iff_ne]; exact hz
        obtain ⟨y2, rfl⟩ := Int.eq_ofNat_of_zero_le hl0
        have hpos : 0 < y2 := by omega
        rw [Int.toNat_natCast, List.drop_drop] at htk
        have HTK2 := Lib.hid htk
        clear htk hz
        go_wp2_with (at_builtin; refine St.app1n tokE rfl (.tmp 26) (.tmp 33) rfl rfl hst (tokV (y1, (k : Int), (k : Int) + y2)) rfl _ 1 rfl (by simp) rfl (tok_one _) (by rw [List.length_map]; unfold maxLen; omega) (by rw [List.length_map]; omega) ?_; intro g3 n3 cap3 w3 hst3; clear hst)
        go_roundw
        case rel => exact ⟨k + y2, m, out ++ [(y1, (k : Int), (k : Int) + y2)], by omega, by omega, by simp; omega, by go_num, by rw [List.map_append]; exact hst3, by rw [Int.natCast_add]; exact HTK2⟩
        case measure => simp [intOf]; omega
    · have htk2 := htk.out
      rw [bytes_end s k (by omega), Lx.toks_end] at htk2
      subst htk2
      clear htk
      go_wp2
      go_ret2
      exact ⟨_, rfl, hst.own, hst.bel⟩
end Go.Proofs.Ytkgpipokfoadiaa
