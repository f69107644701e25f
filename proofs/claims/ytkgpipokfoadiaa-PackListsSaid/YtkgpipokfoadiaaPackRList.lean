/-
  Lists of texts: what ReadList of the program and of the reference compute.
-/
import Derived.Test.YtkgpipokfoadiaaPackText
import Derived.Test.YtkgpipokfoadiaaEncOps
import Derived.Deep.RegionLaw
namespace Go.Proofs.Ytkgpipokfoadiaa
set_option linter.unusedVariables false
open Go.ChangeShapes Go.WideShapes Go.ChangeAt Go.RowKit

namespace Lst
theorem readText_bounds (s : ByteArray) (a : ByteArray) (b c : Int) (h : Pack.readText s = (a, b, c)) : 0 ≤ b ∧ b ≤ s.size ∧ 0 ≤ c ∧ c ≤ 4 ∧ a.size ≤ s.size := by
  unfold Pack.readText at h
  obtain ⟨x, y, z, hr⟩ : ∃ x y z, Pack.readNum s = (x, y, z) := ⟨_, _, _, rfl⟩
  have hb := Pack.readNum_bounds s x y z hr
  rw [hr] at h
  simp only at h
  split at h
  · simp only [Prod.mk.injEq] at h; obtain ⟨rfl, rfl, rfl⟩ := h; simp; omega
  split at h
  · simp only [Prod.mk.injEq] at h; obtain ⟨rfl, rfl, rfl⟩ := h; simp
  split at h
  · simp only [Prod.mk.injEq] at h; obtain ⟨rfl, rfl, rfl⟩ := h; simp
  · simp only [Prod.mk.injEq] at h
    obtain ⟨rfl, rfl, rfl⟩ := h
    rw [ByteArray.size_extract]
    omega
noncomputable def go : Nat → ByteArray → List ByteArray → List ByteArray × Int
  | 0, s, out => if s.size = 0 then (out, 0) else ([], 4)
  | n + 1, s, out => if (Pack.readText s).2.2 ≠ 0 then ([], (Pack.readText s).2.2) else go n (s.extract (Pack.readText s).2.1.toNat s.size) (out ++ [(Pack.readText s).1])
noncomputable def readList (s : ByteArray) : List ByteArray × Int :=
  if (Pack.readNum s).2.2 ≠ 0 then ([], (Pack.readNum s).2.2) else if 100 < (Pack.readNum s).1 then ([], 2) else go (Pack.readNum s).1.toNat (s.extract (Pack.readNum s).2.1.toNat s.size) []
theorem go_end (s : ByteArray) (out) (h : s.size = 0) : go 0 s out = (out, 0) := by rw [go, if_pos h]
theorem go_left (s : ByteArray) (out) (h : s.size ≠ 0) : go 0 s out = ([], 4) := by rw [go, if_neg h]
theorem go_err (n : Nat) (s : ByteArray) (out) (a : ByteArray) (b c : Int) (h : Pack.readText s = (a, b, c)) (hc : c ≠ 0) : go (n + 1) s out = ([], c) := by rw [go, h, if_pos hc]
theorem go_next (n : Nat) (s : ByteArray) (out) (a : ByteArray) (b : Int) (h : Pack.readText s = (a, b, 0)) : go (n + 1) s out = go n (s.extract b.toNat s.size) (out ++ [a]) := by rw [go, h, if_neg (by simp)]
theorem readList_err (s : ByteArray) (a b c : Int) (h : Pack.readNum s = (a, b, c)) (hc : c ≠ 0) : readList s = ([], c) := by rw [readList, h, if_pos hc]
theorem readList_large (s : ByteArray) (a b : Int) (h : Pack.readNum s = (a, b, 0)) (ha : 100 < a) : readList s = ([], 2) := by rw [readList, h, if_neg (by simp), if_pos ha]
theorem readList_go (s : ByteArray) (a b : Int) (h : Pack.readNum s = (a, b, 0)) (ha : ¬ 100 < a) : readList s = go a.toNat (s.extract b.toNat s.size) [] := by rw [readList, h, if_neg (by simp), if_neg ha]
theorem size_rest (s : ByteArray) (b : Nat) : (s.extract b s.size).size ≤ s.size := by rw [ByteArray.size_extract]; omega
theorem empty_of {s : ByteArray} (h : s.size = 0) : s = ByteArray.empty := by
  apply ByteArray.ext
  exact Array.eq_empty_of_size_eq_zero h
theorem nonempty_of {s : ByteArray} (h : s.size ≠ 0) : (!s.toList.isEmpty) = true := by
  rw [ByteArray.toList_eq]
  cases hs : s.data.toList with
  | nil => exfalso; apply h; have : s.data.toList.length = 0 := by rw [hs]; rfl
           simpa using this
  | cons _ _ => rfl
end Lst
attribute [irreducible] Lst.readList Lst.go

theorem strE : ET Try.prog 86 9 1 16 := ET.mk' Try.underlying86 (z := .string ByteArray.empty) (by kernel_rfl) rfl (by decide)

def RetLE (r : List ByteArray × Int) (w : World) (e : Ending) (w' : World) : Prop := ∃ v, e = .returned (.tuple #[v, .int .i64 r.2]) ∧ Own w' w.heap.size 9 1 v (r.1.map Value.string) ∧ Below w.heap.size w w'

set_option maxRecDepth 100000 in
set_option maxHeartbeats 4000000 in
theorem readList_any (s : ByteArray) (hs : s.size ≤ maxLen) (w : World) : Calls Try.prog 43 #[.string s] w (RetLE (Lst.readList s) w) := by
  have hs' := hs
  unfold maxLen at hs'
  obtain ⟨a, b, c, hr⟩ : ∃ a b c, Pack.readNum s = (a, b, c) := ⟨_, _, _, rfl⟩
  obtain ⟨ha0, ha1, hb0, hb1, hc0, hc1⟩ := Pack.readNum_bounds s a b c hr
  have HR := Lib.hid hr; clear hr
  by_cases hc : c = 0
  · subst hc
    by_cases hla : 100 < a
    · have HE := Lib.hid (Lst.readList_large s a b HR.out hla)
      go_enter Try.func43, Try.ntmps43
      go_wp2_with (go_at_call 72; refine (readNum_any s hs _).mono ?_; rintro e w1 ⟨rfl, rfl⟩; rw [HR.out])
      go_ret2
      exact ⟨_, by rw [HE.out]; rfl, by rw [HE.out]; exact Own.nil _ _ _ _, Below.refl _ _⟩
    · have HE := Lib.hid (Lst.readList_go s a b HR.out hla)
      obtain ⟨n, rfl⟩ := Int.eq_ofNat_of_zero_le ha0
      obtain ⟨m, rfl⟩ := Int.eq_ofNat_of_zero_le hb0
      have hsr := Lst.size_rest s m
      have hn100 : n ≤ 100 := by omega
      clear ha1 ha0 hb0
      go_enter Try.func43, Try.ntmps43
      go_wp2_with (go_at_call 72; refine (readNum_any s hs _).mono ?_; rintro e w1 ⟨rfl, rfl⟩; rw [HR.out])
      go_loopw [0, 7, 8, 9, 10, 26] (fun sv o _ _ _ i wr => ∃ (k : Nat) (t : ByteArray) (out : List ByteArray), k ≤ n ∧ out.length = k ∧ t.size ≤ s.size ∧ i = .int .u64 k ∧ sv = .string t ∧ St w wr [aOwn 9 1 o (out.map Value.string)] ∧ Hid (Lst.readList s = Lst.go (n - k) t out)) (fun _ _ _ _ _ i _ => n - (intOf i).toNat)
      case atStart => exact ⟨0, s.extract m s.size, [], by omega, rfl, hsr, rfl, rfl, (St.init w).nilOwn _ _, HE⟩
      case round =>
        clear hsr
        obtain ⟨k, t, out, hk, hol, hts, rfl, rfl, hst, hgo⟩ := hrel
        have HOL := Lib.hid hol; clear hol
        obtain ⟨a2, b2, c2, hr2⟩ : ∃ a b c, Pack.readText t = (a, b, c) := ⟨_, _, _, rfl⟩
        obtain ⟨hb20, hb21, hc20, hc21, ha2⟩ := Lst.readText_bounds t a2 b2 c2 hr2
        have HR2 := Lib.hid hr2; clear hr2
        by_cases hlt : k < n
        · by_cases hc2 : c2 = 0
          · subst hc2
            obtain ⟨m2, rfl⟩ := Int.eq_ofNat_of_zero_le hb20
            have hst2 := hst.drew
            go_wp2_with (go_at_call 88; refine (readText_any t (by unfold maxLen; omega) _).mono ?_; rintro e w1 ⟨rfl, rfl⟩; rw [HR2.out])
            go_region_law ((refine St.step1n strE (by rfl) (.tmp 37) (.tmp 39) (by rfl) (by rfl) hst2 (.string a2) rfl _ 1 rfl (by simp) rfl (by intro q hq; simp [Value.cells] at hq; subst hq; rfl) (by rw [List.length_map, HOL.out]; unfold maxLen; omega) (by rw [List.length_map, HOL.out]; omega) ?_; intro g3 n3 cap3 w3 hst3))
            clear hst hst2
            go_wp2
            go_roundw
            case rel => exact ⟨k + 1, t.extract m2 t.size, out ++ [a2], by omega, by simp [HOL.out], by have := Lst.size_rest t m2; omega, by go_num, rfl, by simpa using hst3, Lib.hid (by
              rw [hgo.out, show n - k = (n - (k + 1)) + 1 by omega, Lst.go_next _ _ _ _ _ HR2.out]; rfl)⟩
            case measure => simp [intOf]; omega
          · have hne : (c2 != 0) = true := by rw [bne_iff_ne]; exact hc2
            have HE2 := Lib.hid (Lst.go_err (n - k - 1) t out a2 b2 c2 HR2.out hc2)
            clear hc2
            go_wp2_with (go_at_call 88; refine (readText_any t (by unfold maxLen; omega) _).mono ?_; rintro e w1 ⟨rfl, rfl⟩; rw [HR2.out])
            go_ret2
            have e2 : Lst.readList s = ([], c2) := by rw [hgo.out, show n - k = (n - k - 1) + 1 by omega]; exact HE2.out
            exact ⟨_, by rw [e2]; rfl, by rw [e2]; exact Own.nil _ _ _ _, hst.bel⟩
        · obtain rfl : k = n := by omega
          rw [Nat.sub_self] at hgo
          by_cases hz : t.size = 0
          · have HE2 := Lib.hid (Lst.go_end t out hz)
            have hz1 := Lst.empty_of hz
            subst hz1
            go_wp2
            go_ret2
            have e2 : Lst.readList s = (out, 0) := by rw [hgo.out]; exact HE2.out
            exact ⟨_, by rw [e2]; rfl, by rw [e2]; exact hst.own, hst.bel⟩
          · have HE2 := Lib.hid (Lst.go_left t out hz)
            have hz1 := Lst.nonempty_of hz
            go_wp2
            go_ret2
            have e2 : Lst.readList s = ([], 4) := by rw [hgo.out]; exact HE2.out
            exact ⟨_, by rw [e2]; rfl, by rw [e2]; exact Own.nil _ _ _ _, hst.bel⟩
  · have hne : (c != 0) = true := by rw [bne_iff_ne]; exact hc
    have HE := Lib.hid (Lst.readList_err s a b c HR.out hc)
    clear hc ha1
    go_enter Try.func43, Try.ntmps43
    go_wp2_with (go_at_call 72; refine (readNum_any s hs _).mono ?_; rintro e w1 ⟨rfl, rfl⟩; rw [HR.out])
    go_ret2
    exact ⟨_, by rw [HE.out]; rfl, by rw [HE.out]; exact Own.nil _ _ _ _, Below.refl _ _⟩

theorem Lst.ext_ext (s : ByteArray) (a b : Nat) (h : a ≤ s.size) : (s.extract a s.size).extract b (s.extract a s.size).size = s.extract (a + b) s.size := by
  rw [ByteArray.extract_extract, ByteArray.size_extract]
  congr 1
  omega

set_option maxRecDepth 100000 in
set_option maxHeartbeats 4000000 in
theorem rreadList_any (s : ByteArray) (hs : s.size ≤ maxLen) (w : World) : Calls Try.prog 44 #[.string s] w (RetLE (Lst.readList s) w) := by
  have hs' := hs
  unfold maxLen at hs'
  obtain ⟨a, b, c, hr⟩ : ∃ a b c, Pack.readNum s = (a, b, c) := ⟨_, _, _, rfl⟩
  obtain ⟨ha0, ha1, hb0, hb1, hc0, hc1⟩ := Pack.readNum_bounds s a b c hr
  have HR := Lib.hid hr; clear hr
  by_cases hc : c = 0
  · subst hc
    by_cases hla : 100 < a
    · have HE := Lib.hid (Lst.readList_large s a b HR.out hla)
      go_enter Try.func44, Try.ntmps44
      go_wp2_with (go_at_call 73; refine (rreadNum_any s hs _).mono ?_; rintro e w1 ⟨rfl, rfl⟩; rw [HR.out])
      go_ret2
      exact ⟨_, by rw [HE.out]; rfl, by rw [HE.out]; exact Own.nil _ _ _ _, Below.refl _ _⟩
    · have HE := Lib.hid (Lst.readList_go s a b HR.out hla)
      obtain ⟨n, rfl⟩ := Int.eq_ofNat_of_zero_le ha0
      obtain ⟨m, rfl⟩ := Int.eq_ofNat_of_zero_le hb0
      have hn100 : n ≤ 100 := by omega
      clear ha1 ha0 hb0
      go_enter Try.func44, Try.ntmps44
      go_wp2_with (go_at_call 73; refine (rreadNum_any s hs _).mono ?_; rintro e w1 ⟨rfl, rfl⟩; rw [HR.out])
      go_loopw [7, 8, 9, 10, 11, 12] (fun av o i _ _ _ wr => ∃ (k at' : Nat) (out : List ByteArray), k ≤ n ∧ out.length = k ∧ at' ≤ s.size ∧ i = .int .i64 k ∧ av = .int .i64 at' ∧ St w wr [aOwn 9 1 o (out.map Value.string)] ∧ Hid (Lst.readList s = Lst.go (n - k) (s.extract at' s.size) out)) (fun _ _ i _ _ _ _ => n - (intOf i).toNat)
      case atStart => exact ⟨0, m, [], by omega, rfl, by omega, rfl, rfl, (St.init w).nilOwn _ _, HE⟩
      case round =>
        obtain ⟨k, p, out, hk, hol, hts, rfl, rfl, hst, hgo⟩ := hrel
        have HOL := Lib.hid hol; clear hol
        obtain ⟨t, ht⟩ : ∃ t, t = s.extract p s.size := ⟨_, rfl⟩
        have hsz : (s.extract p s.size).size = s.size - p := by rw [ByteArray.size_extract]; omega
        obtain ⟨a2, b2, c2, hr2⟩ : ∃ a b c, Pack.readText (s.extract p s.size) = (a, b, c) := ⟨_, _, _, rfl⟩
        obtain ⟨hb20, hb21, hc20, hc21, ha2⟩ := Lst.readText_bounds _ a2 b2 c2 hr2
        have HR2 := Lib.hid hr2; clear hr2
        rw [hsz] at hb21 ha2
        have HSZ := Lib.hid hsz
        clear ht hsz
        by_cases hlt : k < n
        · by_cases hc2 : c2 = 0
          · subst hc2
            obtain ⟨m2, rfl⟩ := Int.eq_ofNat_of_zero_le hb20
            go_wp2_with (first
              | (go_at_call 89; refine (rreadText_any (s.extract p s.size) (by rw [HSZ.out]; unfold maxLen; omega) _).mono ?_; rintro e w1 ⟨rfl, rfl⟩; rw [HR2.out])
              | (at_builtin; refine St.app1n strE rfl (.tmp 42) (.tmp 44) rfl rfl hst (.string a2) rfl _ 1 rfl (by simp) rfl (by intro q hq; simp [Value.cells] at hq; subst hq; rfl) (by rw [List.length_map, HOL.out]; unfold maxLen; omega) (by rw [List.length_map, HOL.out]; omega) ?_; intro g3 n3 cap3 w3 hst3; clear hst))
            go_roundw
            case rel => exact ⟨k + 1, p + m2, out ++ [a2], by omega, by simp [HOL.out], by omega, by go_num, by go_num, by simpa using hst3, Lib.hid (by
              rw [hgo.out, show n - k = (n - (k + 1)) + 1 by omega, Lst.go_next _ _ _ _ _ HR2.out, Int.toNat_natCast, Lst.ext_ext _ _ _ hts])⟩
            case measure => simp [intOf]; omega
          · have hne : (c2 != 0) = true := by rw [bne_iff_ne]; exact hc2
            have HE2 := Lib.hid (Lst.go_err (n - k - 1) _ out a2 b2 c2 HR2.out hc2)
            clear hc2
            go_wp2_with (go_at_call 89; refine (rreadText_any (s.extract p s.size) (by rw [HSZ.out]; unfold maxLen; omega) _).mono ?_; rintro e w1 ⟨rfl, rfl⟩; rw [HR2.out])
            go_ret2
            have e2 : Lst.readList s = ([], c2) := by rw [hgo.out, show n - k = (n - k - 1) + 1 by omega]; exact HE2.out
            exact ⟨_, by rw [e2]; rfl, by rw [e2]; exact Own.nil _ _ _ _, hst.bel⟩
        · obtain rfl : k = n := by omega
          rw [Nat.sub_self] at hgo
          by_cases hz : p = s.size
          · have HE2 := Lib.hid (Lst.go_end (s.extract p s.size) out (by rw [HSZ.out]; omega))
            have hne : ((p : Int) != (s.size : Int)) = false := by rw [bne_eq_false_iff_eq]; omega
            clear hz
            go_wp2
            go_ret2
            have e2 : Lst.readList s = (out, 0) := by rw [hgo.out]; exact HE2.out
            exact ⟨_, by rw [e2]; rfl, by rw [e2]; exact hst.own, hst.bel⟩
          · have HE2 := Lib.hid (Lst.go_left (s.extract p s.size) out (by rw [HSZ.out]; omega))
            have hne : ((p : Int) != (s.size : Int)) = true := by rw [bne_iff_ne]; omega
            clear hz
            go_wp2
            go_ret2
            have e2 : Lst.readList s = ([], 4) := by rw [hgo.out]; exact HE2.out
            exact ⟨_, by rw [e2]; rfl, by rw [e2]; exact Own.nil _ _ _ _, hst.bel⟩
  · have hne : (c != 0) = true := by rw [bne_iff_ne]; exact hc
    have HE := Lib.hid (Lst.readList_err s a b c HR.out hc)
    clear hc ha1
    go_enter Try.func44, Try.ntmps44
    go_wp2_with (go_at_call 73; refine (rreadNum_any s hs _).mono ?_; rintro e w1 ⟨rfl, rfl⟩; rw [HR.out])
    go_ret2
    exact ⟨_, by rw [HE.out]; rfl, by rw [HE.out]; exact Own.nil _ _ _ _, Below.refl _ _⟩
end Go.Proofs.Ytkgpipokfoadiaa
