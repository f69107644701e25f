/-
  Events as bytes: what Pack and EventText compute.
-/
import Derived.Test.YtkgpipokfoadiaaEvt
import Derived.Test.YtkgpipokfoadiaaSepStr
import Derived.Test.YtkgpipokfoadiaaPackNum
namespace Go.Proofs.Ytkgpipokfoadiaa
set_option linter.unusedVariables false
open Go.ChangeShapes Go.WideShapes Go.ChangeAt Go.RowKit

namespace Evt
/-- The bytes of one. -/
def bs (x : Int × Int) : List Int := x.1 :: Pack.num x.2
def cat (l : List (Int × Int)) : Nat → List Int
  | 0 => []
  | k + 1 => cat l k ++ bs (l.getD k (0, 0))
theorem bs_len (x : Int × Int) : (bs x).length ≤ 11 ∧ 1 ≤ (bs x).length := by
  have := Pack.numF_len 10 x.2
  unfold bs Pack.num
  simp only [List.length_cons]
  omega
theorem cat_zero (l) : cat l 0 = [] := rfl
theorem cat_succ (l) (k) : cat l (k + 1) = cat l k ++ bs (l.getD k (0, 0)) := rfl
theorem cat_mono (l) (k j : Nat) (h : k ≤ j) : (cat l k).length ≤ (cat l j).length := by
  induction j with
  | zero => rw [show k = 0 by omega]; exact Nat.le_refl _
  | succ j ih =>
    by_cases e : k = j + 1
    · subst e; exact Nat.le_refl _
    · have := ih (by omega)
      rw [cat_succ, List.length_append]; omega
open Classical in
noncomputable def pack (l : List (Int × Int)) : ByteArray × Int :=
  if l.any odd = true then (ByteArray.empty, 1) else if 1024 < (cat l l.length).length then (ByteArray.empty, 2) else (strOfNums (cat l l.length), 0)
theorem pack_arg (l) (h : l.any odd = true) : pack l = (ByteArray.empty, 1) := by rw [pack, if_pos h]
theorem pack_large (l) (h : l.any odd = false) (k : Nat) (hk : k ≤ l.length) (hc : 1024 < (cat l k).length) : pack l = (ByteArray.empty, 2) := by
  have := cat_mono l k l.length hk
  rw [pack, if_neg (by rw [h]; simp), if_pos (by omega)]
theorem pack_ok (l) (h : l.any odd = false) (hc : ¬ 1024 < (cat l l.length).length) : pack l = (strOfNums (cat l l.length), 0) := by
  rw [pack, if_neg (by rw [h]; simp), if_neg hc]
theorem no_odd {l : List (Int × Int)} (h : l.any odd = false) (k : Nat) (hk : k < l.length) : 1 ≤ (l.getD k (0, 0)).1 ∧ (l.getD k (0, 0)).1 ≤ 4 ∧ 0 ≤ (l.getD k (0, 0)).2 ∧ (l.getD k (0, 0)).2 ≤ 1099511627776 := by
  have hm : l.getD k (0, 0) ∈ l := by simp [List.getD, List.getElem?_eq_getElem hk]
  have := List.any_eq_false.1 h _ hm
  exact odd_no (by simpa using this)
theorem bs_def (a n : Int) : a :: Pack.num n = bs (a, n) := rfl
end Evt
attribute [irreducible] Evt.pack Evt.cat Evt.bs

theorem Own.isSliceLen' {w : World} {B : Nat} {e : TypeId} {size : Nat} {v : Value} {xs : List Value} (h : Own w B e size v xs) : ∃ ao cap, v = .slice ao xs.length cap := by
  rcases h.shape with ⟨h1, h2⟩ | ⟨g, cap, h1, _⟩
  · exact ⟨none, 0, by rw [h1, h2]; rfl⟩
  · exact ⟨_, _, h1⟩
theorem str_nil {P : Program} {src e dst : TypeId} (hs : P.underlying src = some (.slice e)) (he : P.underlying e = some (.int .u8)) (hd : P.underlying dst = some .string) (w : World) :
    (convert src dst (.slice none 0 0)).run P w = .ok (.string ByteArray.empty) w := by
  first | exact run_convert_bytes_nil w src e hs he 0 0 dst hd | exact run_convert_bytes_nil _ _ _ hs he _ _ _ hd | exact run_convert_bytes_nil hs he hd
def RetSI (r : ByteArray × Int) (w : World) (e : Ending) (w' : World) : Prop := e = .returned (.tuple #[.string r.1, .int .i64 r.2]) ∧ Below w.heap.size w w'

theorem strI_strOfNums (xs : List Int) (h : ∀ x ∈ xs, 0 ≤ x ∧ x < 256) : strI (strOfNums xs) = xs := by
  induction xs with
  | nil => rfl
  | cons x xs ih =>
    have h1 := h x (.head _)
    rw [strOfNums_cons]
    have e : strI (strOfNums [x] ++ strOfNums xs) = strI (strOfNums [x]) ++ strI (strOfNums xs) := by simp [strI]
    rw [e, ih fun y hy => h y (.tail _ hy)]
    simp [strI, strOfNums]
    omega
theorem Pack.numF_in (f : Nat) : ∀ n : Int, 0 ≤ n → n < 128 ^ f → ∀ x ∈ Pack.numF f n, 0 ≤ x ∧ x < 256 := by
  induction f with
  | zero => intro n _ _ x hx; simp [Pack.numF] at hx
  | succ f ih =>
    intro n h0 h1 x hx
    by_cases hb : 128 ≤ n
    · rw [Pack.numF_big f n hb] at hx
      rcases List.mem_cons.1 hx with rfl | hx
      · omega
      · exact ih (n / 128) (by omega) (Pack.pow_step f n h1) x hx
    · rw [Pack.numF_small f n (by omega)] at hx
      rw [List.mem_singleton.1 hx]
      omega
theorem Pack.num_in (n : Int) (h0 : 0 ≤ n) (h1 : n ≤ 1099511627776) : ∀ x ∈ Pack.num n, 0 ≤ x ∧ x < 256 :=
  Pack.numF_in 10 n h0 (by
    have : (128 : Int) ^ 10 = 1180591620717411303424 := by decide
    omega)

set_option maxRecDepth 100000 in
set_option maxHeartbeats 8000000 in
theorem gatePack_any (l : List (Int × Int)) (v : Value) (w : World) (F : Nat → Prop) (hF : ∀ b, F b → b < w.heap.size) (h : (Enc.two.sl 16).R F w [v] l) : Calls Try.prog 15 #[v] w (RetSI (Evt.pack l) w) := by
  have H := Lib.hid h
  obtain ⟨ao, b, off, cap, rfl, hl, n3, n4⟩ := slTwo h
  have hl2 : (l.length : Int) ≤ 140737488355328 := by omega
  have N3 := Lib.hid n3; have N4 := Lib.hid n4
  clear n3 n4 hl h
  cases ha : l.any Evt.odd
  · have HA := Lib.hid ha; clear ha
    go_enter Try.func15, Try.ntmps15
    go_wp2_with (go_at_call 68; refine (oddIn_any l _ _ F H.out).mono ?_; rintro e w1 ⟨rfl, hb1⟩; rw [HA.out]; have hst := ((St.init w).call hb1).nilOwn 5 1; clear hb1)
    go_loopw [4, 6, 11] (fun o _ i wr => ∃ k : Nat, k ≤ l.length ∧ i = .int .i64 k ∧ (Evt.cat l k).length ≤ 1024 ∧ St w wr [aOwn 5 1 o ((Evt.cat l k).map (Value.int .u8))]) (fun _ _ i _ => l.length - (intOf i).toNat)
    case atStart => exact ⟨0, by omega, rfl, by simp [Evt.cat_zero], by rw [Evt.cat_zero]; exact hst⟩
    case round =>
      clear hst
      obtain ⟨k, hk, rfl, hcl, hst⟩ := hrel
      by_cases hlt : k < l.length
      · obtain ⟨rfl, _, _⟩ := N3.out (by omega)
        have hc1 := bkeep hst.bel (N4.out k hlt).1
        have hc2 := bkeep hst.bel (N4.out k hlt).2.1
        obtain ⟨he1, he2, he3, he4⟩ := Evt.no_odd HA.out k hlt
        have hsc := Lib.hid (Evt.cat_succ l k)
        generalize l.getD k (0, 0) = x at *
        obtain ⟨x1, x2⟩ := x
        simp only at hc1 hc2 he1 he2 he3 he4
        have hbl := (Evt.bs_len (x1, x2)).1
        go_wp2
        have hbd : ∀ y ∈ Pack.num x2, 0 ≤ y ∧ y < 256 := Pack.num_in x2 he3 he4
        have HBD := Lib.hid (strI_strOfNums (Pack.num x2) hbd)
        have hnl := Lib.hid (Pack.numF_len 10 x2)
        clear hbd
        have hw1 : IntKind.u8.wrap x1 = x1 := by simp [IntKind.wrap, IntKind.bits, IntKind.signed]; omega
        have hw2 : IntKind.u64.wrap x2 = x2 := by simp [IntKind.wrap, IntKind.bits, IntKind.signed]; omega
        replace hst := (hst.alloc #[.int .i64 x1, .int .i64 x2] 39).get2
        generalize wr.alloc (.cells #[.int .i64 x1, .int .i64 x2] 39) = W at hst ⊢
        generalize wr.heap.size = X at hst ⊢
        have hX0 : W.cell? ⟨X, 0, none⟩ = some (.int .i64 x1) := hst.get2.celAt (i := 0) rfl
        have hX1 : W.cell? ⟨X, 1, none⟩ = some (.int .i64 x2) := hst.get2.celAt (i := 1) rfl
        clear hc1 hc2
        go_region_held3 (fun w' => w'.cell? ⟨X, 0, none⟩ = some (.int .i64 x1) ∧ w'.cell? ⟨X, 1, none⟩ = some (.int .i64 x2)) (first | exact ⟨hst.get2.celAt (i := 0) rfl, hst.get2.celAt (i := 1) rfl⟩ | exact ⟨hst.drew.get2.celAt (i := 0) rfl, hst.drew.get2.celAt (i := 1) rfl⟩ | exact ⟨(hst.skip _).get2.celAt (i := 0) rfl, (hst.skip _).get2.celAt (i := 1) rfl⟩ | exact ⟨(hst.skip _).drew.get2.celAt (i := 0) rfl, (hst.skip _).drew.get2.celAt (i := 1) rfl⟩)
          ((first
            | (go_at_call 70; refine (num_any x2 he3 (by omega) _).mono ?_; rintro e w9 ⟨rfl, hb9⟩; have hst := hst.call hb9)
            | (refine St.step1 u8E rfl (.tmp 15) (.tmp 19) rfl rfl (hst.skip _).drew (.int .u8 x1) _ 1 rfl (cell_new_drew _ _ _) rfl rfl (by rw [List.length_map]; unfold maxLen; omega) (by rw [List.length_map]; omega) ?_; intro g3 n3 cap3 w3 hst; replace hst : St w w3 [aOwn 5 1 (.slice (some ⟨g3, 0, none⟩) n3 cap3) ((Evt.cat l k ++ [x1]).map (Value.int .u8)), aCel X 39 #[.int .i64 x1, .int .i64 x2]] := by rw [List.map_append]; exact hst)
            | (refine St.stepStr u8E u8z Try.underlying9 rfl (.tmp 20) (.tmp 24) rfl rfl hst (strOfNums (Pack.num x2)) rfl (by have := hnl.out; rw [strOfNums_size]; unfold Pack.num; simp; omega) ?_; intro v5 w5 hst)))
        have hec : Evt.cat l k ++ [x1] ++ strI (strOfNums (Pack.num x2)) = Evt.cat l (k + 1) := by rw [HBD.out, hsc.out, ← Evt.bs_def, List.append_assoc]; rfl
        rw [hec] at hst
        clear hec
        replace hst := hst.get2.drop
        obtain ⟨ao5, cap5, rfl⟩ := hst.own.isSliceLen'
        rw [List.length_map] at hst ⊢
        have HCC := Lib.hid hcl
        clear hcl hX0 hX1
        have hlc : (Evt.cat l (k + 1)).length ≤ 1040 := by rw [hsc.out, List.length_append]; have := HCC.out; omega
        by_cases hgt : 1024 < (Evt.cat l (k + 1)).length
        · have HE := Lib.hid (Evt.pack_large l HA.out (k + 1) (by omega) hgt)
          go_wp2
          go_ret2
          exact ⟨by rw [HE.out]; rfl, hst.bel⟩
        · go_wp2
          go_roundw
          case rel => exact ⟨k + 1, by omega, by go_num, by omega, hst⟩
          case measure => simp [intOf]; omega
      · obtain rfl : k = l.length := by omega
        have HE := Lib.hid (Evt.pack_ok l HA.out (by omega))
        generalize hcc : Evt.cat l l.length = C at *
        have HCC := Lib.hid hcc; clear hcc
        rcases hst.own.shape with ⟨rfl, h0⟩ | ⟨g, cap2, rfl, _, _⟩
        · rw [List.map_eq_nil_iff] at h0
          have H0 := Lib.hid h0; clear h0
          have hcv := str_nil (P := Try.prog) Try.underlying125 Try.underlying5 Try.underlying9
          go_wp2
          go_ret2
          exact ⟨by rw [HE.out, H0.out]; rfl, hst.bel⟩
        · rw [List.length_map] at hst ⊢
          have hcv := str_of_own Try.underlying125 Try.underlying5 Try.underlying9 _ hst.own
          go_wp2
          go_ret2
          exact ⟨by rw [HE.out]; rfl, hst.bel⟩
  · have HE := Lib.hid (Evt.pack_arg l ha)
    have HA := Lib.hid ha; clear ha
    go_enter Try.func15, Try.ntmps15
    go_wp2_with (go_at_call 68; refine (oddIn_any l _ _ F H.out).mono ?_; rintro e w1 ⟨rfl, hb1⟩; rw [HA.out])
    go_ret2
    exact ⟨by rw [HE.out]; rfl, hb1⟩

set_option maxRecDepth 100000 in
set_option maxHeartbeats 8000000 in
theorem eventText_any (l : List (Int × Int)) (v : Value) (w : World) (F : Nat → Prop) (hF : ∀ b, F b → b < w.heap.size) (h : (Enc.two.sl 16).R F w [v] l) : Calls Try.prog 16 #[v] w (RetSI (Evt.pack l) w) := by
  have H := Lib.hid h
  obtain ⟨ao, b, off, cap, rfl, hl, n3, n4⟩ := slTwo h
  have hl2 : (l.length : Int) ≤ 140737488355328 := by omega
  have N3 := Lib.hid n3; have N4 := Lib.hid n4
  clear n3 n4 hl h
  cases ha : l.any Evt.odd
  · have HA := Lib.hid ha; clear ha
    have hc0 : (.string ByteArray.empty : Value) = .string (strOfNums (Evt.cat l 0)) := by rw [Evt.cat_zero]; rfl
    have HC0 := Lib.hid hc0; clear hc0
    go_enter Try.func16, Try.ntmps16
    go_wp2_with (go_at_call 26; refine (eventsOf_any l _ _ F H.out).mono ?_; rintro e w1 ⟨rfl, hb1⟩; rw [HA.out])
    go_loopw [4, 5] (fun o i wr => ∃ k : Nat, k ≤ l.length ∧ i = .int .i64 k ∧ (Evt.cat l k).length ≤ 1040 ∧ o = .string (strOfNums (Evt.cat l k)) ∧ Below w.heap.size w wr) (fun _ i _ => l.length - (intOf i).toNat)
    case atStart => exact ⟨0, by omega, rfl, by simp [Evt.cat_zero], HC0.out, hb1⟩
    case round =>
      clear hb1
      obtain ⟨k, hk, rfl, hcl, rfl, hB⟩ := hrel
      have hsz := strOfNums_size (Evt.cat l k)
      by_cases hlt : k < l.length ∧ (Evt.cat l k).length ≤ 1024
      · obtain ⟨hlt, hle⟩ := hlt
        have hle2 : ((strOfNums (Evt.cat l k)).size : Int) ≤ 1024 := by omega
        obtain ⟨rfl, hbw, _⟩ := N3.out (by omega)
        have hbr : b < wr.heap.size := Nat.lt_of_lt_of_le hbw hB.size
        have hc1 := bkeep hB (N4.out k hlt).1
        have hc2 := bkeep hB (N4.out k hlt).2.1
        have hn1 := (N4.out k hlt).1
        have hn2 := (N4.out k hlt).2.1
        obtain ⟨he1, he2, he3, he4⟩ := Evt.no_odd HA.out k hlt
        have hsc := Lib.hid (Evt.cat_succ l k)
        generalize l.getD k (0, 0) = x at *
        obtain ⟨x1, x2⟩ := x
        simp only at hc1 hc2 hn1 hn2 he1 he2 he3 he4
        have hbl := (Evt.bs_len (x1, x2)).1
        have hcl2 : (Evt.cat l (k + 1)).length ≤ 1040 := by rw [hsc.out, List.length_append]; omega
        have hadd2 : ∀ W, (Op.stringOp .add (strOfNums (Evt.cat l k)) (strOfNums (Evt.bs (x1, x2)))).run Try.prog W = .ok (.string (strOfNums (Evt.cat l (k + 1)))) W := fun W => by
          rw [hsc.out, strOfNums_app]; exact run_string_add_sum W _ _ (by rw [strOfNums_size, strOfNums_size]; omega)
        have hadd1 : ∀ W, (Op.stringOp .add (strOfNums [x1]) (strOfNums (Pack.num x2))).run Try.prog W = .ok (.string (strOfNums (Evt.bs (x1, x2)))) W := fun W => by
          have hq := Pack.numF_len 10 x2
          rw [← Evt.bs_def, strOfNums_cons x1 (Pack.num x2)]; exact run_string_add_sum W _ _ (by rw [strOfNums_size, strOfNums_size]; unfold Pack.num; simp; omega)
        have hcv := fun b W => str_of_one (P := Try.prog) Try.underlying125 Try.underlying5 Try.underlying9 x1 b 1 W
        have hw1 : IntKind.u8.wrap x1 = x1 := by simp [IntKind.wrap, IntKind.bits, IntKind.signed]; omega
        have hw2 : IntKind.u64.wrap x2 = x2 := by simp [IntKind.wrap, IntKind.bits, IntKind.signed]; omega
        have HCL := Lib.hid hcl; have HSZ := Lib.hid hsz
        clear hcl hsz hle hbl
        go_wp2
        have HN1 := Lib.hid hn1; have HN2 := Lib.hid hn2
        clear hn1 hn2
        go_region_with (go_at_call 71; refine (rnum10 x2 he3 (by omega) _).mono ?_; rintro e w9 ⟨rfl, hb9⟩; (first | (have hB9 := hB.drew.trans (hb9.mono hB.size)) | (have hB9 := (hB.alloc hB.size _).drew.trans (hb9.mono (by have := hB.size; simp; omega)))); have hq1 := bkeep hB9 HN1.out; have hq2 := bkeep hB9 HN2.out; (first | (have hk9 := bkeep hb9 (cell_new _ _ _)) | (have hk9 := bkeep hb9 (cell_new_drew _ _ _)) | skip))
        all_goals
          go_wp2
          go_roundw
          case rel => exact ⟨k + 1, by omega, by go_num, hcl2, rfl, by first | exact hB9 | exact hB9.alloc hB9.size _⟩
          case measure => simp [intOf]; omega
      · by_cases hlt2 : k < l.length
        · have hgt : 1024 < (Evt.cat l k).length := by omega
          have HE := Lib.hid (Evt.pack_large l HA.out k hk hgt)
          have hle2 : ¬ ((strOfNums (Evt.cat l k)).size : Int) ≤ 1024 := by omega
          clear hlt
          go_wp2
          go_ret2
          exact ⟨by rw [HE.out]; rfl, hB⟩
        · obtain rfl : k = l.length := by omega
          clear hlt hlt2
          by_cases hgt : 1024 < (Evt.cat l l.length).length
          · have HE := Lib.hid (Evt.pack_large l HA.out l.length (Nat.le_refl _) hgt)
            have hgt2 : 1024 < (strOfNums (Evt.cat l l.length)).size := by omega
            go_wp2
            go_ret2
            exact ⟨by rw [HE.out]; rfl, hB⟩
          · have HE := Lib.hid (Evt.pack_ok l HA.out hgt)
            have hgt2 : ¬ 1024 < (strOfNums (Evt.cat l l.length)).size := by omega
            go_wp2
            go_ret2
            exact ⟨by rw [HE.out]; rfl, hB⟩
  · have HE := Lib.hid (Evt.pack_arg l ha)
    have HA := Lib.hid ha; clear ha
    go_enter Try.func16, Try.ntmps16
    go_wp2_with (go_at_call 26; refine (eventsOf_any l _ _ F H.out).mono ?_; rintro e w1 ⟨rfl, hb1⟩; rw [HA.out])
    go_ret2
    exact ⟨by rw [HE.out]; rfl, hb1⟩
end Go.Proofs.Ytkgpipokfoadiaa
