/-
  FrameFeeds: slices.Equal on alike lists of frames; the law's walk.
-/
import Derived.Test.YtldapomcjfkeeaaFrdRef
import Derived.Test.YtldapomcjfkeeaaPairSet
namespace Go.Proofs.Ytldapomcjfkeeaa
set_option linter.unusedVariables false
open Go.ChangeShapes Go.WideShapes Go.ChangeAt Go.RowKit

def Enc.frm : Enc (Int × Int × ByteArray) := Enc.prod (Enc.int .i64) (Enc.prod (Enc.int .i64) Enc.str)
theorem slFrames {bytes : Nat} {F : Nat → Prop} {w : World} {v : Value} {l : List (Int × Int × ByteArray)} (h : (Enc.frm.sl bytes).R F w [v] l) :
    ∃ (ao : Option Addr) (b off cap : Nat), v = .slice ao l.length cap ∧ (l.length : Int) * bytes ≤ 140737488355328 ∧ (0 < l.length → ao = some ⟨b, off, none⟩ ∧ b < w.heap.size ∧ F b) ∧
      ∀ i, i < l.length → w.cell? ⟨b, off + i * 3, none⟩ = some (.int .i64 (l.getD i (0, 0, ⟨#[]⟩)).1) ∧ w.cell? ⟨b, off + i * 3 + 1, none⟩ = some (.int .i64 (l.getD i (0, 0, ⟨#[]⟩)).2.1) ∧ w.cell? ⟨b, off + i * 3 + 2, none⟩ = some (.string (l.getD i (0, 0, ⟨#[]⟩)).2.2) := by
  obtain ⟨ao, b, off, cap, h0, h1, h2, h3⟩ := Enc.slN (0, 0, ⟨#[]⟩) h
  refine ⟨ao, b, off, cap, h0, h1, h2, fun i hi => ?_⟩
  obtain ⟨cs, _, g2, g3⟩ := h3 i hi
  obtain ⟨c1, c2, rfl, ⟨rfl, _⟩, c3, c4, rfl, ⟨rfl, _⟩, ⟨rfl, _⟩⟩ := g3
  exact ⟨g2 0 (by decide), g2 1 (by decide), g2 2 (by decide)⟩

set_option maxRecDepth 100000 in
theorem eqFrames {v1 v2 : Value} {l : List (Int × Int × ByteArray)} (w : World) {F1 F2 : Nat → Prop} (h1 : (Enc.frm.sl 32).R F1 w [v1] l) (h2 : (Enc.frm.sl 32).R F2 w [v2] l) :
    Calls Try.prog 16 #[v1, v2] w fun e w' => e = .returned (.bool true) ∧ Below w.heap.size w w' := by
  obtain ⟨a1, b1, o1, c1, rfl, k1, k3, k4⟩ := slFrames h1
  obtain ⟨a2, b2, o2, c2, rfl, g1, g3, g4⟩ := slFrames h2
  have hll : (l.length : Int) ≤ 140737488355328 := by omega
  have K3 := Lib.hid k3; have K4 := Lib.hid k4; have G3 := Lib.hid g3; have G4 := Lib.hid g4
  clear k3 k4 g3 g4 h1 h2 k1 g1
  have hne : ((l.length : Int) != (l.length : Int)) = false := by rw [bne_eq_false_iff_eq]
  go_enter Try.func16, Try.ntmps16
  go_wp2
  go_loopw [5, 13] (fun _ i wr => ∃ k : Nat, k ≤ l.length ∧ i = .int .i64 k ∧ Below w.heap.size w wr) (fun _ i _ => l.length - (intOf i).toNat)
  case atStart => exact ⟨0, by omega, rfl, Below.refl _ _⟩
  case round =>
    obtain ⟨k, hk, rfl, hB⟩ := hrel
    by_cases hlt : k < l.length
    · obtain ⟨rfl, _⟩ := K3.out (by omega)
      obtain ⟨rfl, _⟩ := G3.out (by omega)
      have hc1 := bkeep hB (K4.out k hlt).1
      have hc2 := bkeep hB (K4.out k hlt).2.1
      have hc3 := bkeep hB (K4.out k hlt).2.2
      have hd1 := bkeep hB (G4.out k hlt).1
      have hd2 := bkeep hB (G4.out k hlt).2.1
      have hd3 := bkeep hB (G4.out k hlt).2.2
      generalize l.getD k (0, 0, ⟨#[]⟩) = x at hc1 hc2 hc3 hd1 hd2 hd3
      obtain ⟨x1, x2, x3⟩ := x
      simp only at hc1 hc2 hc3 hd1 hd2 hd3
      clear K3 K4 G3 G4
      go_wp2
      go_quiet (fail)
      go_wp2
      go_roundw
      case rel => exact ⟨k + 1, by omega, by go_num, below_drewN hB _⟩
      case measure => simp [intOf]; omega
    · clear K3 K4 G3 G4
      go_wp2
      go_ret
      exact ⟨rfl, hB⟩

theorem Frd.Feeds.bounds {s : ByteArray} {l : List (Int × Int × ByteArray)} {r : ByteArray} {e : Int} (h : Frd.Feeds s l r e) : l.length * 8 ≤ s.size ∧ ∀ x ∈ l, (0 ≤ x.1 ∧ x.1 < 256) ∧ (0 ≤ x.2.1 ∧ x.2.1 < 256) ∧ x.2.2.size ≤ s.size := by
  induction h with
  | bad hs => exact ⟨by simp, fun x hx => by cases hx⟩
  | more hs => exact ⟨by simp, fun x hx => by cases hx⟩
  | @got s l r e hs h ih =>
    have g := (Frd.got_size hs).2.2.2.2
    refine ⟨by rw [List.length_cons]; omega, fun x hx => ?_⟩
    rcases List.mem_cons.1 hx with rfl | hx
    · refine ⟨⟨Pack.bat_nn _ _, Pack.bat_lt _ _⟩, ⟨Pack.bat_nn _ _, Pack.bat_lt _ _⟩, ?_⟩
      show (s.extract 4 (Frd.body s + 4)).size ≤ s.size
      rw [ByteArray.size_extract]; omega
    · obtain ⟨h1, h2, h3⟩ := ih.2 x hx
      exact ⟨h1, h2, by omega⟩
theorem Own.frames {w : World} {B : Nat} {v : Value} {l : List (Int × Int × ByteArray)} {F : Nat → Prop} (h : Own w B 32 3 v (l.map frameV)) (hF : ∀ b ∈ v.ownBlock.toList, F b) (hl : l.length * 8 ≤ 1048576) (hx : ∀ x ∈ l, (0 ≤ x.1 ∧ x.1 < 256) ∧ (0 ≤ x.2.1 ∧ x.2.1 < 256) ∧ x.2.2.size ≤ 1048576) : (Enc.frm.sl 32).R F w [v] l :=
  Own.enc (En := Enc.frm) (bytes := 32) h rfl (fun a ha => by
    obtain ⟨h1, h2, h3⟩ := hx a ha
    exact ⟨[.int .i64 a.1], [.int .i64 a.2.1, .string a.2.2], rfl, ⟨rfl, WalkArith.wf_i64 (by omega)⟩, [.int .i64 a.2.1], [.string a.2.2], rfl, ⟨rfl, WalkArith.wf_i64 (by omega)⟩, ⟨rfl, by omega⟩⟩) hF (by omega)

set_option maxRecDepth 100000 in
set_option maxHeartbeats 8000000 in
theorem frameFeeds_walk (r s : ByteArray) (d : Int) (w : World) (hsz : r.size + s.size ≤ 1048576) :
    Calls Try.prog 3 #[.agg #[.string r, .int .i64 d], .string s] w fun e w' => e = .returned (.bool true) ∧ Below w.heap.size w w' := by
  have hst := (St.init w).alloc #[.string r, .int .i64 d] 24
  by_cases hd : d = 0
  · subst hd
    have hq : (r ++ s).size ≤ 1048576 := by rw [ByteArray.size_append]; exact hsz
    have hadd : ∀ W, (Op.stringOp .add r s).run Try.prog W = .ok (.string (r ++ s)) W := fun W => run_string_add_sum W _ _ (by omega)
    obtain ⟨L, R, E, hf⟩ := Frd.total _ (r ++ s) (Nat.lt_succ_self _)
    have hbd := hf.bounds
    have HBD : Hid (L.length * 8 ≤ 1048576 ∧ ∀ x ∈ L, (0 ≤ x.1 ∧ x.1 < 256) ∧ (0 ≤ x.2.1 ∧ x.2.1 < 256) ∧ x.2.2.size ≤ 1048576) := Lib.hid ⟨by omega, fun x hx => by obtain ⟨h1, h2, h3⟩ := hbd.2 x hx; exact ⟨h1, h2, by omega⟩⟩
    have HF1 := Lib.hid (fun W => frameFeed_ok r s W L R E hsz hf)
    have HF2 := Lib.hid (fun W => feedRef_any (r ++ s) W L R E hq hf)
    generalize r ++ s = q at *
    clear hf hbd hq hsz
    go_enter Try.func3, Try.ntmps3
    go_wp2_with (fail)
    go_at_call 14
    refine (HF1.out _).mono ?_
    rintro e w1 ⟨v1, rfl, hst1⟩
    replace hst := (hst.joined hst1).alloc #[.string R, .int .i64 E] 24
    simp only [List.cons_append, List.nil_append] at hst
    clear hst1
    obtain ⟨g0, g1⟩ := hst.at2 2 rfl
    go_wp2_with (fail)
    go_at_call 15
    refine (HF2.out _).mono ?_
    rintro e w2 ⟨v2, rfl, hst2⟩
    replace hst := hst.joined hst2
    simp only [List.cons_append, List.nil_append] at hst
    clear hst2 g0 g1
    obtain ⟨g0, g1⟩ := hst.at2 1 rfl
    have H1 := Lib.hid (Own.frames (F := fun b => b < w2.heap.size) (hst.ownAt 2 rfl) (fun b hb => ((hst.nth 2 rfl).fpOwn b hb).2) HBD.out.1 HBD.out.2)
    have H2 := Lib.hid (Own.frames (F := fun b => b < w2.heap.size) (hst.ownAt 0 rfl) (fun b hb => ((hst.nth 0 rfl).fpOwn b hb).2) HBD.out.1 HBD.out.2)
    go_wp2_with (fail)
    go_at_call 16
    refine (eqFrames (l := L) _ H1.out H2.out).mono ?_
    rintro e w3 ⟨rfl, hb3⟩
    replace hst := hst.call hb3
    go_wp2
    go_ret
    exact ⟨rfl, hst.bel⟩
  · have hdb : (d != 0) = true := by rw [bne_iff_ne]; exact hd
    have HF1 := Lib.hid (fun W => frameFeed_dead r s d hd W)
    clear hd hsz
    go_enter Try.func3, Try.ntmps3
    go_wp2_with (fail)
    go_at_call 14
    refine (HF1.out _).mono ?_
    rintro e w1 ⟨rfl, hb1⟩
    replace hst := (hst.call hb1).alloc #[.string r, .int .i64 d] 24
    clear hb1
    obtain ⟨g0, g1⟩ := hst.at2 1 rfl
    go_wp2
    go_ret
    exact ⟨rfl, hst.bel⟩
end Go.Proofs.Ytldapomcjfkeeaa
