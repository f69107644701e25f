/-
  Feed of package frame: what it computes.
-/
import Derived.Test.YtldapomcjfkeeaaFrdFront
import Derived.Test.YtldapomcjfkeeaaShrink
import Derived.Deep.RegionLaw
namespace Go.Proofs.Ytldapomcjfkeeaa
set_option linter.unusedVariables false
open Go.ChangeShapes Go.WideShapes Go.ChangeAt Go.RowKit
open Pack (bat bat_get bat_nn bat_lt)

namespace Frd
theorem total (n : Nat) : ∀ s : ByteArray, s.size < n → ∃ l r e, Feeds s l r e := by
  induction n with
  | zero => intro s h; omega
  | succ n ih =>
    intro s h
    cases hr : res s with
    | bad e => exact ⟨_, _, _, .bad hr⟩
    | more => exact ⟨_, _, _, .more hr⟩
    | got =>
      have := (got_size hr).2.2.2.2
      obtain ⟨l, r, e, hf⟩ := ih (rest s) (by omega)
      exact ⟨_, _, _, .got hr hf⟩
theorem bad_num {s : ByteArray} {e : Int} (h : res s = .bad e) : e = 1 ∨ e = 2 ∨ e = 5 := by
  rcases front_cases s with ⟨_, _, hr⟩ | ⟨_, _, hr⟩ | ⟨_, _, _, _, hr⟩ | ⟨_, _, _, _, _, hr⟩ | ⟨_, _, _, _, _, _, hr⟩ | ⟨_, _, _, _, _, _, hr⟩ <;> rw [hr] at h <;> cases h <;> simp
/-- So far, and what is to come. -/
def Left (s : ByteArray) (o : List (Int × Int × ByteArray)) (L : List (Int × Int × ByteArray)) (R : ByteArray) (E : Int) : Prop := ∃ l, Feeds s l R E ∧ o ++ l = L
theorem left_bad {s o L R E e} (h : Left s o L R E) (hr : res s = .bad e) : L = o ∧ R = ByteArray.empty ∧ E = e := by
  obtain ⟨l, hf, hl⟩ := h
  obtain ⟨rfl, rfl, rfl⟩ := Feeds.uniq hf (.bad hr)
  exact ⟨by rw [← hl, List.append_nil], rfl, rfl⟩
theorem left_more {s o L R E} (h : Left s o L R E) (hr : res s = .more) : L = o ∧ R = s ∧ E = 0 := by
  obtain ⟨l, hf, hl⟩ := h
  obtain ⟨rfl, rfl, rfl⟩ := Feeds.uniq hf (.more hr)
  exact ⟨by rw [← hl, List.append_nil], rfl, rfl⟩
theorem left_got {s o L R E} (h : Left s o L R E) (hr : res s = .got) : Left (rest s) (o ++ [frame s]) L R E := by
  obtain ⟨l, hf, hl⟩ := h
  cases hf with
  | bad h2 => rw [hr] at h2; cases h2
  | more h2 => rw [hr] at h2; cases h2
  | got h2 h3 => exact ⟨_, h3, by rw [← hl, List.append_assoc]; rfl⟩
end Frd
def frameV (x : Int × Int × ByteArray) : Value := .agg #[.int .i64 x.1, .int .i64 x.2.1, .string x.2.2]
theorem frame_one (x : Int × Int × ByteArray) : ∀ q ∈ (frameV x).cells.toList, q.oneCell' = true := by
  intro q hq; simp [frameV, Value.cells] at hq; rcases hq with h | h | h <;> subst h <;> rfl
theorem frameE : ET Try.prog 25 32 3 32 := ET.mk' Try.underlying25 (z := .agg #[.int .i64 0, .int .i64 0, .string ⟨#[]⟩]) (by kernel_rfl) rfl (by decide)
def Frd.RetFeed (L : List (Int × Int × ByteArray)) (R : ByteArray) (E : Int) (w : World) (e : Ending) (w' : World) : Prop := ∃ v, e = .returned (.tuple #[.agg #[.string R, .int .i64 E], v, .int .i64 E]) ∧ St w w' [aOwn 32 3 v (L.map frameV)]
def Frd.FeedRel (N : Nat) (L : List (Int × Int × ByteArray)) (R : ByteArray) (E : Int) (w : World) (μ : List Asrt) (sv o : Value) (wr : World) : Prop :=
  ∃ (s : ByteArray) (out : List (Int × Int × ByteArray)), sv = .string s ∧ out.length * 8 + s.size ≤ N ∧ St w wr (aOwn 32 3 o (out.map frameV) :: μ) ∧ Hid (Frd.Left s out L R E)
def strLen (v : Value) : Nat := match v with | .string s => s.size | _ => 0

set_option maxRecDepth 100000 in
theorem frameFeed_dead (r s : ByteArray) (d : Int) (hd : d ≠ 0) (w : World) :
    Calls Try.prog 14 #[.agg #[.string r, .int .i64 d], .string s] w fun e w' => e = .returned (.tuple #[.agg #[.string r, .int .i64 d], .slice none 0 0, .int .i64 15]) ∧ Below w.heap.size w w' := by
  have hb : (d != 0) = true := by rw [bne_iff_ne]; exact hd
  have hst := ((St.init w).alloc #[.string r, .int .i64 d] 24).alloc #[.string r, .int .i64 d] 24
  simp only [World.size_alloc] at hst
  have k0 := (hst.nth 0 rfl).celAt (i := 0) rfl
  have k1 := (hst.nth 0 rfl).celAt (i := 1) rfl
  have HB := Lib.hid hst.bel
  have HK := Lib.hid (And.intro k0 k1)
  clear hd hst k0 k1
  go_enter Try.func14, Try.ntmps14
  go_wp2
  obtain ⟨k0, k1⟩ := HK.out
  refine bodyPost_ret (v := .tuple #[.agg #[.string r, .int .i64 d], .slice none 0 0, .int .i64 15]) ?_ rfl ?_
  · simp [results, Try.results14, go_sem, k0, k1]
  · exact ⟨rfl, HB.out⟩

set_option maxRecDepth 100000 in
set_option maxHeartbeats 8000000 in
theorem frameFeed_ok (r s : ByteArray) (w : World) (L : List (Int × Int × ByteArray)) (R : ByteArray) (E : Int) (hsz : r.size + s.size ≤ 1048576) (hf : Frd.Feeds (r ++ s) L R E) :
    Calls Try.prog 14 #[.agg #[.string r, .int .i64 0], .string s] w (Frd.RetFeed L R E w) := by
  have hadd : ∀ W, (Op.stringOp .add r s).run Try.prog W = .ok (.string (r ++ s)) W := fun W => run_string_add_sum W _ _ (by omega)
  have hsz2 : (r ++ s).size ≤ 1048576 := by rw [ByteArray.size_append]; exact hsz
  have hst := (((St.init w).alloc #[.string r, .int .i64 0] 24).alloc #[.string ⟨#[]⟩, .int .i64 0] 24).nilOwn 32 3
  simp only [World.size_alloc] at hst
  have HL : Hid (Frd.Left (r ++ s) [] L R E) := Lib.hid ⟨L, hf, rfl⟩
  clear hf hsz
  generalize hq : r ++ s = q at *
  clear hq
  go_enter Try.func14, Try.ntmps14
  go_wp2
  go_loopw [1, 7] (fun sv o wr => Frd.FeedRel 1048576 L R E w [aCel (w.heap.size + 1) 24 #[.string ⟨#[]⟩, .int .i64 0], aCel w.heap.size 24 #[.string r, .int .i64 0]] sv o wr) (fun sv _ _ => strLen sv)
  case atStart => exact ⟨q, [], rfl, by simpa using hsz2, hst, HL⟩
  case round =>
    clear hst HL hsz2 hadd
    obtain ⟨t, out, rfl, hol, hst, HL⟩ := hrel
    have hfr := front_any t (by omega)
    obtain ⟨av, nv, cv, rfl⟩ : ∃ x n c, u7 = .slice x n c := by obtain ⟨x, c, h⟩ := hst.own.isLen; exact ⟨_, _, _, h⟩
    cases hr : Frd.res t with
    | bad e0 =>
      obtain ⟨rfl, rfl, rfl⟩ := Frd.left_bad HL.out hr
      rw [Frd.out_bad hr] at hfr
      have HFR := Lib.hid hfr
      have hne : (E != 0) = true := by rw [bne_iff_ne]; rcases Frd.bad_num hr with h | h | h <;> rw [h] <;> decide
      clear hfr hr HL
      go_wp2_with (fail)
      go_at_call 72
      refine (HFR.out _).mono ?_
      rintro e w1 ⟨rfl, hb1⟩
      replace hst := hst.call hb1
      clear hb1
      obtain ⟨i0, i1, if0, if1⟩ := (show _ ∧ _ ∧ _ ∧ _ from ⟨(hst.nth 1 rfl).celAt (i := 0) rfl, (hst.nth 1 rfl).celAt (i := 1) rfl, (hst.nth 1 rfl).celFree 0, (hst.nth 1 rfl).celFree 1⟩)
      have lI := World.block_lt_of_cell? _ _ i0
      have hst2 := ((hst.get2.setCel 0 (.string ⟨#[]⟩)).setCel 1 (.int .i64 E)).skip (.cells #[.int .i64 0, .int .i64 0, .string ⟨#[]⟩] 32)
      have HF := Lib.hid hst2
      clear hst hst2
      go_wp2
      have k0 := HF.out.celAt (i := 0) rfl
      have k1 := HF.out.celAt (i := 1) rfl
      refine bodyPost_ret (v := .tuple #[.agg #[.string ⟨#[]⟩, .int .i64 E], .slice av nv cv, .int .i64 E]) ?_ rfl ?_
      · simp [results, Try.results14, go_sem, k0, k1]
      · exact ⟨_, rfl, HF.out.nth 1 rfl⟩
    | more =>
      obtain ⟨rfl, rfl, rfl⟩ := Frd.left_more HL.out hr
      rw [Frd.out_more hr] at hfr
      have HFR := Lib.hid hfr
      clear hfr hr HL
      go_wp2_with (fail)
      go_at_call 72
      refine (HFR.out _).mono ?_
      rintro e w1 ⟨rfl, hb1⟩
      replace hst := hst.call hb1
      clear hb1
      obtain ⟨i0, i1, if0, if1⟩ := (show _ ∧ _ ∧ _ ∧ _ from ⟨(hst.nth 1 rfl).celAt (i := 0) rfl, (hst.nth 1 rfl).celAt (i := 1) rfl, (hst.nth 1 rfl).celFree 0, (hst.nth 1 rfl).celFree 1⟩)
      have lI := World.block_lt_of_cell? _ _ i0
      have hst2 := ((hst.get2.setCel 0 (.string R)).setCel 1 (.int .i64 0)).skip (.cells #[.int .i64 0, .int .i64 0, .string ⟨#[]⟩] 32)
      have HF := Lib.hid hst2
      clear hst hst2
      go_wp2
      have k0 := HF.out.celAt (i := 0) rfl
      have k1 := HF.out.celAt (i := 1) rfl
      refine bodyPost_ret (v := .tuple #[.agg #[.string R, .int .i64 0], .slice av nv cv, .int .i64 0]) ?_ rfl ?_
      · simp [results, Try.results14, go_sem, k0, k1]
      · exact ⟨_, rfl, HF.out.nth 1 rfl⟩
    | got =>
      have HLN := Lib.hid (Frd.left_got HL.out hr)
      rw [Frd.out_got hr] at hfr
      have HFR := Lib.hid hfr
      obtain ⟨g1, g2, g3, g4, g5⟩ := Frd.got_size hr
      have hrest : Frd.rest t = t.extract (Frd.body t + 8) t.size := rfl
      have HRS := Lib.hid hrest
      rw [← g4] at HFR
      generalize Frd.body t = M at *
      generalize hfx : Frd.frame t = X at *
      obtain ⟨x1, x2, x3⟩ := X
      have hM0 : ((M : Int) + 8 == 0) = false := by rw [beq_eq_false_iff_ne]; omega
      have m1 : (M : Int) + 8 ≤ t.size := by omega
      have m2 : M + 8 ≤ t.size := by omega
      have m3 : ((M : Int) + 8).toNat = M + 8 := by omega
      have m4 : (0 : Int) ≤ (M : Int) + 8 := by omega
      have HG5 := Lib.hid g5
      clear hfr hr HL hrest g4 g5 hfx
      go_wp2_with (fail)
      go_at_call 72
      refine (HFR.out _).mono ?_
      rintro e w1 ⟨rfl, hb1⟩
      replace hst := hst.call hb1
      clear hb1
      obtain ⟨i0, i1, if0, if1⟩ := (show _ ∧ _ ∧ _ ∧ _ from ⟨(hst.nth 1 rfl).celAt (i := 0) rfl, (hst.nth 1 rfl).celAt (i := 1) rfl, (hst.nth 1 rfl).celFree 0, (hst.nth 1 rfl).celFree 1⟩)
      have lI := World.block_lt_of_cell? _ _ i0
      have hstD := (hst.alloc #[.int .i64 x1, .int .i64 x2, .string x3] 32).get2.drew
      clear hst
      go_wp2
      go_region_law (refine St.step1n frameE (by rfl) (.tmp 36) (.tmp 38) (by rfl) (by rfl) hstD (frameV (x1, x2, x3)) rfl _ 1 rfl (by simp) rfl (frame_one _) (by rw [List.length_map]; unfold maxLen; omega) (by rw [List.length_map]; omega) ?_; intro g6 n6 c6 w6 hst6)
      all_goals
        have hrs := HRS.out
        have hg5 := HG5.out
        rw [hrs] at hg5
        have hrel : Frd.FeedRel 1048576 L R E w [aCel (w.heap.size + 1) 24 #[.string ⟨#[]⟩, .int .i64 0], aCel w.heap.size 24 #[.string r, .int .i64 0]] (.string (t.extract (M + 8) t.size)) (.slice (some ⟨g6, 0, none⟩) n6 c6) w6 :=
          ⟨_, out ++ [(x1, x2, x3)], rfl, by rw [List.length_append, List.length_singleton]; omega, by rw [List.map_append]; exact hst6.get2.drop, Lib.hid (by have h := HLN.out; rw [hrs] at h; exact h)⟩
        have hms : (t.extract (M + 8) t.size).size < t.size := by omega
        clear HLN HRS HG5 hrs hg5
        go_wp2
        go_roundw
        case rel => first | exact hrel | ((repeat apply Exists.intro); exact ⟨hrel, rfl⟩)
        case measure => first | exact hms | (simp only [strLen]; exact hms) | (simp [strLen]; omega)
end Go.Proofs.Ytldapomcjfkeeaa
