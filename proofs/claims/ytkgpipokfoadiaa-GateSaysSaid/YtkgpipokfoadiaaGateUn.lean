/-
  Events out of bytes: what Unpack and ReadEvents compute.
-/
import Derived.Test.YtkgpipokfoadiaaEvt
import Derived.Test.YtkgpipokfoadiaaPackText
namespace Go.Proofs.Ytkgpipokfoadiaa
set_option linter.unusedVariables false
open Go.ChangeShapes Go.WideShapes Go.ChangeAt Go.RowKit
open Pack (bat bat_get bat_nn bat_lt readNum)

namespace Evt
noncomputable def ug : Nat → ByteArray → List (Int × Int) → List (Int × Int) × Int
  | 0, s, out => (out, 0)
  | n + 1, s, out =>
    if s.size = 0 then (out, 0) else if bat s 0 < 1 ∨ 4 < bat s 0 then ([], 1)
    else if (readNum (s.extract 1 s.size)).2.2 ≠ 0 then ([], (readNum (s.extract 1 s.size)).2.2)
    else if 1099511627776 < (readNum (s.extract 1 s.size)).1 then ([], 1)
    else ug n (s.extract ((readNum (s.extract 1 s.size)).2.1 + 1).toNat s.size) (out ++ [(bat s 0, (readNum (s.extract 1 s.size)).1)])
noncomputable def unpack (s : ByteArray) : List (Int × Int) × Int := if 1024 < s.size then ([], 2) else ug 1025 s []
theorem unpack_large (s) (h : 1024 < s.size) : unpack s = ([], 2) := by rw [unpack, if_pos h]
theorem unpack_go (s) (h : ¬ 1024 < s.size) : unpack s = ug 1025 s [] := by rw [unpack, if_neg h]
theorem ug_end (n s out) (h : s.size = 0) : ug n s out = (out, 0) := by
  cases n with
  | zero => rfl
  | succ n => rw [ug, if_pos h]
theorem ug_bad (n s out) (h : s.size ≠ 0) (h1 : bat s 0 < 1 ∨ 4 < bat s 0) : ug (n + 1) s out = ([], 1) := by rw [ug, if_neg h, if_pos h1]
theorem ug_err (n s out) (h : s.size ≠ 0) (h1 : ¬ (bat s 0 < 1 ∨ 4 < bat s 0)) (a b c : Int) (hr : readNum (s.extract 1 s.size) = (a, b, c)) (hc : c ≠ 0) : ug (n + 1) s out = ([], c) := by
  rw [ug, if_neg h, if_neg h1, hr, if_pos hc]
theorem ug_far (n s out) (h : s.size ≠ 0) (h1 : ¬ (bat s 0 < 1 ∨ 4 < bat s 0)) (a b : Int) (hr : readNum (s.extract 1 s.size) = (a, b, 0)) (ha : 1099511627776 < a) : ug (n + 1) s out = ([], 1) := by
  rw [ug, if_neg h, if_neg h1, hr, if_neg (by simp), if_pos ha]
theorem ug_next (n s out) (h : s.size ≠ 0) (h1 : ¬ (bat s 0 < 1 ∨ 4 < bat s 0)) (a b : Int) (hr : readNum (s.extract 1 s.size) = (a, b, 0)) (ha : ¬ 1099511627776 < a) : ug (n + 1) s out = ug n (s.extract (b + 1).toNat s.size) (out ++ [(bat s 0, a)]) := by
  rw [ug, if_neg h, if_neg h1, hr, if_neg (by simp), if_neg ha]
theorem empty_of {s : ByteArray} (h : s.size = 0) : s = ByteArray.empty := by
  apply ByteArray.ext
  exact Array.eq_empty_of_size_eq_zero h
theorem nonempty_of {s : ByteArray} (h : s.size ≠ 0) : (!s.toList.isEmpty) = true := by
  rw [ByteArray.toList_eq]
  cases hs : s.data.toList with
  | nil => exfalso; apply h; have : s.data.toList.length = 0 := by rw [hs]; rfl
           simpa using this
  | cons _ _ => rfl
theorem ext_ext (s : ByteArray) (a b : Nat) (h : a ≤ s.size) : (s.extract a s.size).extract b (s.extract a s.size).size = s.extract (a + b) s.size := by
  rw [ByteArray.extract_extract, ByteArray.size_extract]
  congr 1
  omega
theorem bat_ext (s : ByteArray) (a : Nat) (h : a < s.size) : bat (s.extract a s.size) 0 = bat s a := by
  have h1 : 0 < (s.extract a s.size).size := by rw [ByteArray.size_extract]; omega
  rw [← bat_get _ 0 h1, ← bat_get s a h]
  simp [ByteArray.getElem_extract]
end Evt
attribute [irreducible] Evt.unpack Evt.ug

theorem evtE : ET Try.prog 32 39 2 16 := ET.mk' Try.underlying32 (z := .agg #[.int .i64 0, .int .i64 0]) (by kernel_rfl) rfl (by decide)
theorem pair_one (p : Int × Int) : ∀ q ∈ (pairV p).cells.toList, q.oneCell' = true := by
  intro q hq
  simp [pairV, Value.cells] at hq
  rcases hq with rfl | rfl <;> rfl

def RetEE (r : List (Int × Int) × Int) (w : World) (e : Ending) (w' : World) : Prop := ∃ v, e = .returned (.tuple #[v, .int .i64 r.2]) ∧ Own w' w.heap.size 39 2 v (r.1.map pairV) ∧ Below w.heap.size w w'

set_option maxRecDepth 100000 in
set_option maxHeartbeats 4000000 in
theorem gateUn_any (s : ByteArray) (w : World) : Calls Try.prog 17 #[.string s] w (RetEE (Evt.unpack s) w) := by
  by_cases hlg : 1024 < s.size
  · have HE := Lib.hid (Evt.unpack_large s hlg)
    go_enter Try.func17, Try.ntmps17
    go_wp2
    go_ret2
    exact ⟨_, by rw [HE.out]; rfl, by rw [HE.out]; exact Own.nil _ _ _ _, Below.refl _ _⟩
  · have HG := Lib.hid (Evt.unpack_go s hlg)
    go_enter Try.func17, Try.ntmps17
    go_wp2
    go_loopw [0, 4, 5, 6, 7] (fun sv o _ _ _ wr => ∃ (n : Nat) (t : ByteArray) (out : List (Int × Int)), t.size < n ∧ t.size + out.length ≤ 1024 ∧ sv = .string t ∧ St w wr [aOwn 39 2 o (out.map pairV)] ∧ Hid (Evt.unpack s = Evt.ug n t out)) (fun sv _ _ _ _ _ => match sv with | .string t => t.size | _ => 0)
    case atStart => exact ⟨1025, s, [], by omega, by simp; omega, rfl, (St.init w).nilOwn _ _, HG⟩
    case round =>
      obtain ⟨n, t, out, hn, hto, rfl, hst, hgo⟩ := hrel
      by_cases hz : t.size = 0
      · have HE := Lib.hid (Evt.ug_end n t out hz)
        have hz1 := Evt.empty_of hz
        subst hz1
        go_wp2
        go_ret2
        have e2 : Evt.unpack s = (out, 0) := by rw [hgo.out]; exact HE.out
        exact ⟨_, by rw [e2]; rfl, by rw [e2]; exact hst.own, hst.bel⟩
      · have hne := Evt.nonempty_of hz
        obtain ⟨n, rfl⟩ : ∃ m, n = m + 1 := ⟨n - 1, by omega⟩
        have hp : 0 < t.size := by omega
        have HB := Lib.hid (bat_get t 0 hp)
        have HZ := Lib.hid hz; clear hz
        by_cases hb : ((t[0]'hp).toNat : Int) < 1 ∨ 4 < ((t[0]'hp).toNat : Int)
        · have HE := Lib.hid (Evt.ug_bad n t out HZ.out (by rw [← HB.out]; exact hb))
          have e2 : Hid (Evt.unpack s = ([], 1)) := Lib.hid (by rw [hgo.out]; exact HE.out)
          rcases (by omega : ((t[0]'hp).toNat : Int) < 1 ∨ (¬ ((t[0]'hp).toNat : Int) < 1 ∧ 4 < ((t[0]'hp).toNat : Int))) with h1 | ⟨h1, h2⟩
          all_goals
            clear hb
            go_wp2
            go_ret2
            exact ⟨_, by rw [e2.out]; rfl, by rw [e2.out]; exact Own.nil _ _ _ _, hst.bel⟩
        · have HNB : Hid (¬ (bat t 0 < 1 ∨ 4 < bat t 0)) := Lib.hid (by rw [← HB.out]; exact hb)
          have h1 : ¬ ((t[0]'hp).toNat : Int) < 1 := by omega
          have h2 : ¬ 4 < ((t[0]'hp).toNat : Int) := by omega
          clear hb
          have hsz : (t.extract 1 t.size).size = t.size - 1 := by rw [ByteArray.size_extract]; omega
          obtain ⟨a, b, c, hr⟩ : ∃ a b c, readNum (t.extract 1 t.size) = (a, b, c) := ⟨_, _, _, rfl⟩
          obtain ⟨ha0, ha1, hb0, hb1, hc0, hc1⟩ := Pack.readNum_bounds _ a b c hr
          rw [hsz] at hb1
          have HSZ := Lib.hid hsz; have HR := Lib.hid hr
          clear hsz hr
          by_cases hc : c = 0
          · subst hc
            by_cases hfar : 1099511627776 < a
            · have HE := Lib.hid (Evt.ug_far n t out HZ.out HNB.out a b HR.out hfar)
              have e2 : Hid (Evt.unpack s = ([], 1)) := Lib.hid (by rw [hgo.out]; exact HE.out)
              clear ha1
              go_wp2_with (go_at_call 72; refine (readNum_any (t.extract 1 t.size) (by rw [HSZ.out]; unfold maxLen; omega) _).mono ?_; rintro e w1 ⟨rfl, rfl⟩; rw [HR.out])
              go_ret2
              exact ⟨_, by rw [e2.out]; rfl, by rw [e2.out]; exact Own.nil _ _ _ _, hst.bel⟩
            · have HE := Lib.hid (Evt.ug_next n t out HZ.out HNB.out a b HR.out hfar)
              have hfar2 : a ≤ 1099511627776 := by omega
              clear ha1
              obtain ⟨b, rfl⟩ := Int.eq_ofNat_of_zero_le hb0
              go_wp2_with (first
                | (go_at_call 72; refine (readNum_any (t.extract 1 t.size) (by rw [HSZ.out]; unfold maxLen; omega) _).mono ?_; rintro e w1 ⟨rfl, rfl⟩; rw [HR.out])
                | (at_builtin; refine St.app1n evtE rfl (.tmp 33) (.tmp 40) rfl rfl hst (pairV (((t[0]'hp).toNat : Int), a)) rfl _ 1 rfl (by simp) rfl (pair_one _) (by rw [List.length_map]; unfold maxLen; omega) (by rw [List.length_map]; omega) ?_; intro g3 n3 cap3 w3 hst3; clear hst))
              go_roundw
              case rel => exact ⟨n, t.extract (b + 1) t.size, out ++ [(((t[0]'hp).toNat : Int), a)], by rw [ByteArray.size_extract]; omega, by rw [ByteArray.size_extract, List.length_append, List.length_singleton]; omega, rfl, by simpa using hst3, Lib.hid (by rw [hgo.out, HE.out, HB.out]; rfl)⟩
              case measure => simp only [ByteArray.size_extract]; omega
          · have hnc : (c != 0) = true := by rw [bne_iff_ne]; exact hc
            have HE := Lib.hid (Evt.ug_err n t out HZ.out HNB.out a b c HR.out hc)
            have e2 : Hid (Evt.unpack s = ([], c)) := Lib.hid (by rw [hgo.out]; exact HE.out)
            clear hc ha1
            go_wp2_with (go_at_call 72; refine (readNum_any (t.extract 1 t.size) (by rw [HSZ.out]; unfold maxLen; omega) _).mono ?_; rintro e w1 ⟨rfl, rfl⟩; rw [HR.out])
            go_ret2
            exact ⟨_, by rw [e2.out]; rfl, by rw [e2.out]; exact Own.nil _ _ _ _, hst.bel⟩

set_option maxRecDepth 100000 in
set_option maxHeartbeats 4000000 in
theorem readEvents_any (s : ByteArray) (w : World) : Calls Try.prog 18 #[.string s] w (RetEE (Evt.unpack s) w) := by
  by_cases hlg : 1024 < s.size
  · have HE := Lib.hid (Evt.unpack_large s hlg)
    go_enter Try.func18, Try.ntmps18
    go_wp2
    go_ret2
    exact ⟨_, by rw [HE.out]; rfl, by rw [HE.out]; exact Own.nil _ _ _ _, Below.refl _ _⟩
  · have HG : Hid (Evt.unpack s = Evt.ug 1025 (s.extract 0 s.size) []) := Lib.hid (by rw [Evt.unpack_go s hlg, ByteArray.extract_zero_size])
    go_enter Try.func18, Try.ntmps18
    go_wp2
    go_loopw [4, 5, 6, 7, 8] (fun o av _ _ _ wr => ∃ (n p : Nat) (out : List (Int × Int)), s.size < n + p ∧ p ≤ s.size ∧ out.length ≤ p ∧ av = .int .i64 p ∧ St w wr [aOwn 39 2 o (out.map pairV)] ∧ Hid (Evt.unpack s = Evt.ug n (s.extract p s.size) out)) (fun _ av _ _ _ _ => s.size - (intOf av).toNat)
    case atStart => exact ⟨1025, 0, [], by omega, by omega, by simp, rfl, (St.init w).nilOwn _ _, HG⟩
    case round =>
      obtain ⟨n, p, out, hn, hp, hto, rfl, hst, hgo⟩ := hrel
      have hsz : (s.extract p s.size).size = s.size - p := by rw [ByteArray.size_extract]; omega
      have HSZ := Lib.hid hsz
      clear hsz
      by_cases hlt : p < s.size
      · obtain ⟨n, rfl⟩ : ∃ m, n = m + 1 := ⟨n - 1, by omega⟩
        have HB : Hid (((s[p]'hlt).toNat : Int) = bat (s.extract p s.size) 0) := Lib.hid (by rw [Evt.bat_ext s p hlt]; exact bat_get s p hlt)
        have HZ : Hid ((s.extract p s.size).size ≠ 0) := Lib.hid (by rw [HSZ.out]; omega)
        have hby := (s[p]'hlt).toNat_lt
        by_cases hb : ((s[p]'hlt).toNat : Int) < 1 ∨ 4 < ((s[p]'hlt).toNat : Int)
        · have HE := Lib.hid (Evt.ug_bad n _ out HZ.out (by rw [← HB.out]; exact hb))
          have e2 : Hid (Evt.unpack s = ([], 1)) := Lib.hid (by rw [hgo.out]; exact HE.out)
          rcases (by omega : ((s[p]'hlt).toNat : Int) < 1 ∨ (¬ ((s[p]'hlt).toNat : Int) < 1 ∧ 4 < ((s[p]'hlt).toNat : Int))) with h1 | ⟨h1, h2⟩
          · have h0 : (((s[p]'hlt).toNat : Int) == 0) = true := by rw [beq_iff_eq]; omega
            clear hb
            go_wp2
            go_ret2
            exact ⟨_, by rw [e2.out]; rfl, by rw [e2.out]; exact Own.nil _ _ _ _, hst.bel⟩
          · have h0 : (((s[p]'hlt).toNat : Int) == 0) = false := by rw [beq_eq_false_iff_ne]; omega
            clear hb
            go_wp2
            go_ret2
            exact ⟨_, by rw [e2.out]; rfl, by rw [e2.out]; exact Own.nil _ _ _ _, hst.bel⟩
        · have HNB : Hid (¬ (bat (s.extract p s.size) 0 < 1 ∨ 4 < bat (s.extract p s.size) 0)) := Lib.hid (by rw [← HB.out]; exact hb)
          have h0 : (((s[p]'hlt).toNat : Int) == 0) = false := by rw [beq_eq_false_iff_ne]; omega
          have h2 : ¬ 4 < ((s[p]'hlt).toNat : Int) := by omega
          clear hb
          have hsz2 : (s.extract (p + 1) s.size).size = s.size - (p + 1) := by rw [ByteArray.size_extract]; omega
          obtain ⟨a, b, c, hr⟩ : ∃ a b c, readNum (s.extract (p + 1) s.size) = (a, b, c) := ⟨_, _, _, rfl⟩
          obtain ⟨ha0, ha1, hb0, hb1, hc0, hc1⟩ := Pack.readNum_bounds _ a b c hr
          rw [hsz2] at hb1
          have HR2 : Hid (readNum ((s.extract p s.size).extract 1 (s.extract p s.size).size) = (a, b, c)) := Lib.hid (by rw [Evt.ext_ext s p 1 hp]; exact hr)
          have HSZ2 := Lib.hid hsz2; have HR := Lib.hid hr
          clear hsz2 hr
          by_cases hc : c = 0
          · subst hc
            by_cases hfar : 1099511627776 < a
            · have HE := Lib.hid (Evt.ug_far n _ out HZ.out HNB.out a b HR2.out hfar)
              have e2 : Hid (Evt.unpack s = ([], 1)) := Lib.hid (by rw [hgo.out]; exact HE.out)
              clear ha1
              go_wp2_with (go_at_call 73; refine (rreadNum_any (s.extract (p + 1) s.size) (by rw [HSZ2.out]; unfold maxLen; omega) _).mono ?_; rintro e w1 ⟨rfl, rfl⟩; rw [HR.out])
              go_ret2
              exact ⟨_, by rw [e2.out]; rfl, by rw [e2.out]; exact Own.nil _ _ _ _, hst.bel⟩
            · have HE := Lib.hid (Evt.ug_next n _ out HZ.out HNB.out a b HR2.out hfar)
              have hfar2 : a ≤ 1099511627776 := by omega
              clear ha1
              obtain ⟨b, rfl⟩ := Int.eq_ofNat_of_zero_le hb0
              go_wp2_with (first
                | (go_at_call 73; refine (rreadNum_any (s.extract (p + 1) s.size) (by rw [HSZ2.out]; unfold maxLen; omega) _).mono ?_; rintro e w1 ⟨rfl, rfl⟩; rw [HR.out])
                | (at_builtin; refine St.app1n evtE rfl (.tmp 40) (.tmp 48) rfl rfl hst (pairV (((s[p]'hlt).toNat : Int), a)) rfl _ 1 rfl (by simp) rfl (pair_one _) (by rw [List.length_map]; unfold maxLen; omega) (by rw [List.length_map]; omega) ?_; intro g3 n3 cap3 w3 hst3; clear hst))
              go_roundw
              case rel => exact ⟨n, p + (1 + b), out ++ [(((s[p]'hlt).toNat : Int), a)], by omega, by omega, by rw [List.length_append, List.length_singleton]; omega, by go_num, by simpa using hst3, Lib.hid (by
                rw [hgo.out, HE.out, HB.out, show ((b : Int) + 1).toNat = 1 + b by omega, Evt.ext_ext s p (1 + b) hp])⟩
              case measure => simp [intOf]; omega
          · have hnc : (c != 0) = true := by rw [bne_iff_ne]; exact hc
            have HE := Lib.hid (Evt.ug_err n _ out HZ.out HNB.out a b c HR2.out hc)
            have e2 : Hid (Evt.unpack s = ([], c)) := Lib.hid (by rw [hgo.out]; exact HE.out)
            clear hc ha1
            go_wp2_with (go_at_call 73; refine (rreadNum_any (s.extract (p + 1) s.size) (by rw [HSZ2.out]; unfold maxLen; omega) _).mono ?_; rintro e w1 ⟨rfl, rfl⟩; rw [HR.out])
            go_ret2
            exact ⟨_, by rw [e2.out]; rfl, by rw [e2.out]; exact Own.nil _ _ _ _, hst.bel⟩
      · obtain rfl : p = s.size := by omega
        have HE := Lib.hid (Evt.ug_end n _ out (by rw [HSZ.out]; omega))
        have e2 : Hid (Evt.unpack s = (out, 0)) := Lib.hid (by rw [hgo.out]; exact HE.out)
        go_wp2
        go_ret2
        exact ⟨_, by rw [e2.out]; rfl, by rw [e2.out]; exact hst.own, hst.bel⟩
end Go.Proofs.Ytkgpipokfoadiaa
