/-
  Apart of package small: what it computes.
-/
import Derived.Test.YtbpjmdemmmdnbaaApD
import Derived.Test.YtbpjmdemmmdnbaaDfa
import Derived.Deep.CutBlock
import Derived.Deep.DeepCutAuto
import Derived.Deep.RegionHeld
namespace Go.Proofs.Ytbpjmdemmmdnbaa
set_option linter.unusedVariables false
set_option linter.unusedSimpArgs false
open Go.ChangeShapes Go.WideShapes Go.ChangeAt Go.RowKit

theorem apart_bad1 (va vb : Value) (D : Ap.Two) (w : World) (ha : DfaAt w va D.r1 D.t1) (hb : DfaAt w vb D.r2 D.t2) (he : Aut.err D.r1 D.t1 ≠ 0) :
    Calls Try.prog 9 #[va, vb] w fun e w' => e = .returned (.tuple #[.string ⟨#[]⟩, .bool false, .int .i64 (Aut.err D.r1 D.t1)]) ∧ Below w.heap.size w w' := by
  obtain ⟨a0, a1, rfl, -, -⟩ := id ha
  obtain ⟨b0, b1, rfl, -, -⟩ := id hb
  have HC := Lib.hid (fun (w' : World) (hb : Below w.heap.size w w') => dfaCheck_any _ D.r1 D.t1 w' (ha.below hb))
  generalize Aut.err D.r1 D.t1 = E at *
  have hE : (E != 0) = true := by rw [bne_iff_ne]; exact he
  have hst := ((St.init w).alloc #[a0, a1] 25).alloc #[b0, b1] 25
  simp only [World.size_alloc] at hst
  have HST := Lib.hid hst
  clear ha hb he hst
  go_enter Try.func9, Try.ntmps9
  go_wp2_with (fail)
  go_at_call 33
  refine (HC.out _ HST.out.bel).mono ?_
  rintro e w1 ⟨rfl, hb1⟩
  have HST := Lib.hid (HST.out.call hb1)
  clear hb1
  go_wp2
  go_ret3
  exact ⟨rfl, HST.out.bel⟩
theorem apart_bad2 (va vb : Value) (D : Ap.Two) (w : World) (ha : DfaAt w va D.r1 D.t1) (hb : DfaAt w vb D.r2 D.t2) (he : Aut.err D.r1 D.t1 = 0) (he2 : Aut.err D.r2 D.t2 ≠ 0) :
    Calls Try.prog 9 #[va, vb] w fun e w' => e = .returned (.tuple #[.string ⟨#[]⟩, .bool false, .int .i64 (Aut.err D.r2 D.t2)]) ∧ Below w.heap.size w w' := by
  obtain ⟨a0, a1, rfl, -, -⟩ := id ha
  obtain ⟨b0, b1, rfl, -, -⟩ := id hb
  have HC := Lib.hid (fun (w' : World) (hb : Below w.heap.size w w') => dfaCheck_any _ D.r1 D.t1 w' (ha.below hb))
  have HC2 := Lib.hid (fun (w' : World) (hw : Below w.heap.size w w') => dfaCheck_any _ D.r2 D.t2 w' (hb.below hw))
  rw [he] at HC
  generalize Aut.err D.r2 D.t2 = E at *
  have hE : (E != 0) = true := by rw [bne_iff_ne]; exact he2
  have hst := ((St.init w).alloc #[a0, a1] 25).alloc #[b0, b1] 25
  simp only [World.size_alloc] at hst
  have HST := Lib.hid hst
  clear ha hb he he2 hst
  go_enter Try.func9, Try.ntmps9
  go_wp2_with (fail)
  go_at_call 33
  refine (HC.out _ HST.out.bel).mono ?_
  rintro e w1 ⟨rfl, hb1⟩
  have hst := HST.out.call hb1
  have HST := Lib.hid hst
  obtain ⟨y0, y1⟩ := hst.at2 0 rfl
  clear hb1 hst
  go_wp2_with (fail)
  go_at_call 33
  refine (HC2.out _ HST.out.bel).mono ?_
  rintro e w2 ⟨rfl, hb2⟩
  have HST := Lib.hid (HST.out.call hb2)
  clear hb2
  go_wp2
  go_ret3
  exact ⟨rfl, HST.out.bel⟩

abbrev Ap.base (S g c gm m : Nat) (a0 a1 b0 b1 : Value) (n : Nat) (Q : List Ap.It) (M : DataW Unit) : List Asrt :=
  [aOwn 83 4 (.slice (some ⟨g, 0, none⟩) n c) (Q.map Ap.itV), aMap 81 3 gm m M, aCel (S + 1) 25 #[b0, b1], aCel S 25 #[a0, a1]]
theorem Ap.itemAt {w : World} {B g n c k : Nat} {S : List Ap.It} (h : Own w B 83 4 (.slice (some ⟨g, 0, none⟩) n c) (S.map Ap.itV)) (hl : (S.length : Int) ≤ 140737488355328) (hk : k < S.length) :
    w.cell? ⟨g, k * 4, none⟩ = some (.int .i64 (Ap.at' S k).1.1) ∧ w.cell? ⟨g, k * 4 + 1, none⟩ = some (.int .i64 (Ap.at' S k).1.2) ∧ w.cell? ⟨g, k * 4 + 2, none⟩ = some (.int .i64 (Ap.at' S k).2.1) ∧ w.cell? ⟨g, k * 4 + 3, none⟩ = some (.int .u8 (Ap.at' S k).2.2) := by
  obtain ⟨_, b, o, _, hv, _, ha, hc⟩ := h.rowN (f := Ap.itV) (size := 4) (fun _ => rfl) Ap.z0 hl
  simp only [Value.slice.injEq, Option.some.injEq] at hv
  obtain ⟨rfl, _, _⟩ := hv
  have ha2 := ha (by omega)
  simp only [Option.some.injEq, Addr.mk.injEq, and_true] at ha2
  obtain ⟨rfl, rfl⟩ := ha2
  have h0 := hc k hk 0 (by decide)
  have h1 := hc k hk 1 (by decide)
  have h2 := hc k hk 2 (by decide)
  have h3 := hc k hk 3 (by decide)
  rw [Nat.zero_add] at h0 h1 h2 h3
  exact ⟨h0, h1, h2, h3⟩
theorem St.stepAlloc {P : Program} {w0 w : World} {μ : List Asrt} {ops : Array Oper} {o : Oper} {a : Act} {K : Act → World → Prop} {Q : Exit → Act → World → Prop} {EE : Prop} {T : TypeId} {cs : Array Value} (hgd : o.guard = none) (ha : o.op = Op.alloc T) (hr : ∀ u : World, (execOp a.eval o).run P u = .ok (.value (.pointer (some ⟨u.heap.size, 0, none⟩))) (u.alloc (.cells cs T)))
    (h : St w0 w μ) (hK : ∀ g w', St w0 w' (aCel g T cs :: μ) → K (a.put o.dst (.pointer (some ⟨g, 0, none⟩))) w') : if Region.wanted o (yielded ops a.tmps) = true then Oper.wp P o a w K Q else EE :=
  St.stepNew hgd hr h hK
theorem slice_eq {a : Option Addr} {n m c : Nat} (h : n = m) : Value.slice a n c = Value.slice a m c := by rw [h]
theorem Ap.shareW {P A : World → Prop} {G : Prop} (h1 : (∀ W, A W → P W) → G) (h2 : ∀ W, A W → P W) : G := h1 h2
theorem Ap.shareE {P A : Value → Nat → World → Prop} {G : Prop} (h1 : (∀ v s W, A v s W → P v s W) → G) (h2 : ∀ v s W, A v s W → P v s W) : G := h1 h2
theorem Ap.shareG {P A : Nat → World → Prop} {G : Prop} (h1 : (∀ g W, A g W → P g W) → G) (h2 : ∀ g W, A g W → P g W) : G := h1 h2
def RetAp (D : Ap.Two) (w : World) (e : Ending) (w' : World) : Prop := ∃ (l : List Int) (is : Bool), e = .returned (.tuple #[.string (strOfNums l), .bool is, .int .i64 0]) ∧ Hid (Ap.Says D l is) ∧ Below w.heap.size w w'

set_option maxRecDepth 100000 in
set_option maxHeartbeats 4000000 in
theorem apart_ok (va vb : Value) (D : Ap.Two) (w : World) (ha : DfaAt w va D.r1 D.t1) (hb : DfaAt w vb D.r2 D.t2) (he : Aut.err D.r1 D.t1 = 0) (he2 : Aut.err D.r2 D.t2 = 0) :
    Calls Try.prog 9 #[va, vb] w (RetAp D w) := by
  obtain ⟨a0, a1, rfl, -, -⟩ := id ha
  obtain ⟨b0, b1, rfl, -, -⟩ := id hb
  have HC := Lib.hid (fun (w' : World) (hb : Below w.heap.size w w') => dfaCheck_any _ D.r1 D.t1 w' (ha.below hb))
  have HC2 := Lib.hid (fun (w' : World) (hw : Below w.heap.size w w') => dfaCheck_any _ D.r2 D.t2 w' (hb.below hw))
  obtain ⟨n1, p1, l1, g1⟩ := Aut.err_good _ _ he
  obtain ⟨n2, p2, l2, g2⟩ := Aut.err_good _ _ he2
  have HG := Lib.hid (show Ap.Good D from ⟨n1, n2, p1, p2, fun i hi => (g1 i hi).2, fun i hi => (g2 i hi).2⟩)
  have HTA := Lib.hid (fun (w' : World) (q : Int) (hw : Below w.heap.size w w') (hq : q < D.r1.length) => smTag_any _ D.r1 D.t1 q w' (ha.below hw) (by rw [l1]; exact hq))
  have HTB := Lib.hid (fun (w' : World) (q : Int) (hw : Below w.heap.size w w') (hq : q < D.r2.length) => smTag_any _ D.r2 D.t2 q w' (hb.below hw) (by rw [l2]; exact hq))
  have HOA := Lib.hid (fun (w' : World) (q : Int) (c : Nat) (hw : Below w.heap.size w w') (hq : q < D.r1.length) (hc : c < 256) => smTo_any _ D.r1 D.t1 q c w' (ha.below hw) hq hc)
  have HOB := Lib.hid (fun (w' : World) (q : Int) (c : Nat) (hw : Below w.heap.size w w') (hq : q < D.r2.length) (hc : c < 256) => smTo_any _ D.r2 D.t2 q c w' (hb.below hw) hq hc)
  rw [he] at HC
  rw [he2] at HC2
  have hn1 : (D.r1.length : Int) ≤ 200 := by omega
  have hn2 : (D.r2.length : Int) ≤ 200 := by omega
  have hst := ((St.init w).alloc #[a0, a1] 25).alloc #[b0, b1] 25
  simp only [World.size_alloc] at hst
  have HST := Lib.hid hst
  clear ha hb he he2 hst n1 n2 p1 p2 l1 l2 g1 g2
  go_enter Try.func9, Try.ntmps9
  go_wp2_with (fail)
  go_at_call 33
  refine (HC.out _ HST.out.bel).mono ?_
  rintro e w1 ⟨rfl, hb1⟩
  have hst := HST.out.call hb1
  have HST := Lib.hid hst
  obtain ⟨y0, y1⟩ := hst.at2 0 rfl
  clear hb1 hst HC
  go_wp2_with (fail)
  go_at_call 33
  refine (HC2.out _ HST.out.bel).mono ?_
  rintro e w2 ⟨rfl, hb2⟩
  have HST := Lib.hid (HST.out.call hb2)
  clear hb2 y0 y1 HC2
  have hmm := @run_makeMap Try.prog
  obtain ⟨kl0, hkl0⟩ := Ap.prKey (0, 0) (by decide) (by decide)
  have HK0 := Lib.hid hkl0
  clear hkl0
  have hM := (((HST.out.alloc #[.int .i64 0, .int .i64 0, .int .i64 (-1), .int .u8 0] 83).turn (A' := aOwn 83 4 (.slice (some ⟨w2.heap.size, 0, none⟩) 1 1) [Ap.itV Ap.z0]) rfl (Ap.own_one (u := Ap.itV Ap.z0) (heap_alloc_new _ _) rfl)).makeMap 81 3)
  simp only [World.size_alloc] at hM
  have HM := Lib.hid hM
  clear hM
  go_wp2_with (refine St.insertOp rfl (.tmp 30) (.tmp 31) (.const (.int .i64 1)) rfl Ap.law Try.underlying85 HM.out (by decide) rfl (Ap.prV (0, 0)) (.int .i64 1) rfl rfl HK0.out (.lit (.int .i64 1)) [] (plainElem_int Try.underlying3 (by decide)) ?_; intro w3 hst3; have HST3 := Lib.hid hst3; clear hst3 HM HST)
  have HS1 := Lib.hid (Ap.Seen.init HK0.out Ap.z0 rfl)
  generalize w2.heap.size + 1 = gm at *
  generalize w2.heap.size = g0 at *
  clear hmm
  have HST := Lib.hid (show St w w3 (Ap.base w.heap.size g0 1 gm 1 a0 a1 b0 b1 1 (Ap.Q D 0) ((.map [] : DataW Unit).put kl0 (.lit (.int .i64 1)))) from HST3.out.pick [1, 0, 2, 3] 4 rfl rfl)
  clear HST3
  go_loopg [9, 11] 50000 (fun gk v9 v11 wr => ∃ (k g c m T : Nat) (M : DataW Unit), k ≤ (Ap.Q D k).length ∧ gk = 50000 - k ∧ v11 = .int .i64 k ∧ v9 = .slice (some ⟨g, 0, none⟩) (Ap.Q D k).length c ∧ T ≤ 256 * k + 1 ∧ m ≤ T ∧ Hid (∀ j, j < k → Ap.diff D (Ap.at' (Ap.Q D k) j).1 = false) ∧ Hid (Ap.Seen M (Ap.Q D k) T) ∧ St w wr (Ap.base w.heap.size g c gm m a0 a1 b0 b1 (Ap.Q D k).length (Ap.Q D k) M))
  case atStart => exact ⟨0, g0, 1, 1, 1, _, by simp [Ap.Q], rfl, rfl, rfl, by omega, by omega, Lib.hid (fun j hj => by omega), HS1, HST.out⟩
  case round =>
    clear HST HS1
    obtain ⟨k, g, c, m, T, M, hk, hgk, rfl, rfl, hT, hm, HEQ, HSE, hst⟩ := hrel
    have HGK := Lib.hid hgk
    clear hgk
    have hok := Ap.ok_Q HG.out k
    have hlen := Ap.ok_small HG.out hok
    have HQS := Lib.hid (fun h => Ap.Q_succ (D := D) (k := k) h)
    have HSAY := Lib.hid (fun l is (h : (k < (Ap.Q D k).length ∧ Ap.diff D (Ap.at' (Ap.Q D k) k).1 = true ∧ l = Ap.txt (Ap.Q D k) k ∧ is = true) ∨ (k = (Ap.Q D k).length ∧ l = [] ∧ is = false)) => (show Ap.Says D l is from ⟨k, HEQ.out, h⟩))
    obtain ⟨S, hS⟩ : ∃ S, Ap.Q D k = S := ⟨_, rfl⟩
    rw [hS] at hk HEQ HSE hst hok hlen HQS HSAY ⊢
    have HS := Lib.hid hS
    have HOK := Lib.hid hok
    clear hS hok
    by_cases hlt : k < S.length
    · obtain ⟨r0, r1, -, -⟩ := Ap.itemAt (hst.nth 0 rfl).own (by omega) hlt
      have hrg := HOK.out.rg k hlt
      obtain ⟨x, hx⟩ : ∃ x, (Ap.at' S k).1 = x := ⟨_, rfl⟩
      have HX := Lib.hid hx
      rw [hx] at r0 r1 hrg
      rw [hx] at HSAY
      clear hx
      obtain ⟨xa, xb⟩ := x
      simp only at r0 r1 hrg
      obtain ⟨q1, q2, q3, q4⟩ := hrg
      have HST := Lib.hid (hst.alloc #[.int .i64 xa, .int .i64 xb] 81).drew
      clear hst
      go_wp2_with (fail)
      generalize hW1 : wr.alloc (.cells #[.int .i64 xa, .int .i64 xb] 81) = w4 at *
      generalize wr.heap.size = gp at *
      clear hW1
      obtain ⟨z0, z1⟩ := HST.out.at2 4 rfl
      obtain ⟨y0, y1⟩ := HST.out.at2 3 rfl
      obtain ⟨p0, p1⟩ := HST.out.at2 0 rfl
      have HN := Lib.hid (St.init w4.drew)
      have hdf : (Aut.tagOf D.t1 xa != Aut.tagOf D.t2 xb) = Ap.diff D (xa, xb) := by unfold Ap.diff; rw [Bool.eq_iff_iff]; simp
      obtain ⟨B, hB⟩ : ∃ B, Ap.diff D (xa, xb) = B := ⟨_, rfl⟩
      rw [hB] at hdf HSAY
      have HB := Lib.hid hB
      clear hB
      refine wp_region_held_drew (S := (fun w' => w'.cell? ⟨w.heap.size, 0, none⟩ = some a0 ∧ w'.cell? ⟨w.heap.size, 1, none⟩ = some a1 ∧ w'.cell? ⟨w.heap.size + 1, 0, none⟩ = some b0 ∧ w'.cell? ⟨w.heap.size + 1, 1, none⟩ = some b1 ∧ w'.cell? ⟨gp, 0, none⟩ = some (.int .i64 xa) ∧ w'.cell? ⟨gp, 1, none⟩ = some (.int .i64 xb))) (by kernel_rfl) ?_ (fun hHeld => ?_)
      · (try dsimp only); (exact ⟨bkeep HN.out.bel z0, bkeep HN.out.bel z1, bkeep HN.out.bel y0, bkeep HN.out.bel y1, bkeep HN.out.bel p0, bkeep HN.out.bel p1⟩)

      refine wpAnyH_take (i := 0) (v := ?_) rfl (by kernel_rfl) (by kernel_rfl) (by kernel_rfl) (fun _ _ _ h => h) (Or.inl ⟨by rfl, ?_⟩) (by assumption) ?_
      rotate_left; focus (intro w hSw; (try dsimp only at hSw); go_simp; try (with_reducible rfl); done)
      try simp only [List.getElem_toArray, List.getElem_cons_zero, List.getElem_cons_succ, Act.put, List.setIfInBounds_toArray, List.set_cons_zero, List.set_cons_succ]
      refine wpAnyH_take (i := 1) (v := ?_) rfl (by kernel_rfl) (by kernel_rfl) (by kernel_rfl) (fun _ _ _ h => h) (Or.inl ⟨by rfl, ?_⟩) (by assumption) ?_
      rotate_left; focus (intro w hSw; (try dsimp only at hSw); go_simp; try (with_reducible rfl); done)
      try simp only [List.getElem_toArray, List.getElem_cons_zero, List.getElem_cons_succ, Act.put, List.setIfInBounds_toArray, List.set_cons_zero, List.set_cons_succ]
      refine wpAnyH_take (i := 2) (v := ?_) rfl (by kernel_rfl) (by kernel_rfl) (by kernel_rfl) (fun _ _ _ h => h) (Or.inl ⟨by rfl, ?_⟩) (by assumption) ?_
      rotate_left; focus (intro w hSw; (try dsimp only at hSw); go_simp; try (with_reducible rfl); done)
      try simp only [List.getElem_toArray, List.getElem_cons_zero, List.getElem_cons_succ, Act.put, List.setIfInBounds_toArray, List.set_cons_zero, List.set_cons_succ]
      refine wpAnyH_take (i := 4) (v := ?_) rfl (by kernel_rfl) (by kernel_rfl) (by kernel_rfl) (fun _ _ _ h => h) (Or.inl ⟨by rfl, ?_⟩) (by assumption) ?_
      rotate_left; focus (intro w hSw; (try dsimp only at hSw); go_simp; try (with_reducible rfl); done)
      try simp only [List.getElem_toArray, List.getElem_cons_zero, List.getElem_cons_succ, Act.put, List.setIfInBounds_toArray, List.set_cons_zero, List.set_cons_succ]
      refine wpAnyH_take (i := 5) (v := ?_) rfl (by kernel_rfl) (by kernel_rfl) (by kernel_rfl) (fun _ _ _ h => h) (Or.inl ⟨by rfl, ?_⟩) (by assumption) ?_
      rotate_left; focus (intro w hSw; (try dsimp only at hSw); go_simp; try (with_reducible rfl); done)
      try simp only [List.getElem_toArray, List.getElem_cons_zero, List.getElem_cons_succ, Act.put, List.setIfInBounds_toArray, List.set_cons_zero, List.set_cons_succ]
      refine wpAnyH_take (i := 6) (v := ?_) rfl (by kernel_rfl) (by kernel_rfl) (by kernel_rfl) (fun _ _ _ h => h) (Or.inl ⟨by rfl, ?_⟩) (by assumption) ?_
      rotate_left; focus (intro w hSw; (try dsimp only at hSw); go_simp; try (with_reducible rfl); done)
      try simp only [List.getElem_toArray, List.getElem_cons_zero, List.getElem_cons_succ, Act.put, List.setIfInBounds_toArray, List.set_cons_zero, List.set_cons_succ]
      refine wpAnyH_ready (rs := [3]) (by kernel_rfl) (by simp) ?_
      refine AllReadyH.cons rfl (fun K hK => ?_) AllReadyH.nil
      go_simp
      (go_at_call 34; (first | (with_reducible refine (HTA.out _ xa (HST.out.bel.trans (HN.out.bel.mono HST.out.bel.size)) q2).mono ?_) | (with_reducible refine (HTB.out _ xb (HST.out.bel.trans (HN.out.bel.mono HST.out.bel.size)) q4).mono ?_)); rintro e w8 ⟨rfl, hb8⟩; have HN := Lib.hid (HN.out.call hb8); clear hb8)
      refine hK.out _ _ ?_ (fun hHeld => ?_)
      · (try dsimp only); (exact ⟨bkeep HN.out.bel z0, bkeep HN.out.bel z1, bkeep HN.out.bel y0, bkeep HN.out.bel y1, bkeep HN.out.bel p0, bkeep HN.out.bel p1⟩)
      clear hK K
      try simp only [List.getElem_toArray, List.getElem_cons_zero, List.getElem_cons_succ, Act.put, List.setIfInBounds_toArray, List.set_cons_zero, List.set_cons_succ]
      refine wpAnyH_ready (rs := [7]) (by kernel_rfl) (by simp) ?_
      refine AllReadyH.cons rfl (fun K hK => ?_) AllReadyH.nil
      go_simp
      (go_at_call 34; (first | (with_reducible refine (HTA.out _ xa (HST.out.bel.trans (HN.out.bel.mono HST.out.bel.size)) q2).mono ?_) | (with_reducible refine (HTB.out _ xb (HST.out.bel.trans (HN.out.bel.mono HST.out.bel.size)) q4).mono ?_)); rintro e w8 ⟨rfl, hb8⟩; have HN := Lib.hid (HN.out.call hb8); clear hb8)
      refine hK.out _ _ ?_ (fun hHeld => ?_)
      · (try dsimp only); (exact ⟨bkeep HN.out.bel z0, bkeep HN.out.bel z1, bkeep HN.out.bel y0, bkeep HN.out.bel y1, bkeep HN.out.bel p0, bkeep HN.out.bel p1⟩)
      clear hK K
      try simp only [List.getElem_toArray, List.getElem_cons_zero, List.getElem_cons_succ, Act.put, List.setIfInBounds_toArray, List.set_cons_zero, List.set_cons_succ]
      refine wpAnyH_take (i := 8) (v := ?_) rfl (by kernel_rfl) (by kernel_rfl) (by kernel_rfl) (fun _ _ _ h => h) (Or.inl ⟨by rfl, ?_⟩) (by assumption) ?_
      rotate_left; focus (intro w hSw; (try dsimp only at hSw); go_simp; try (with_reducible rfl); done)
      try simp only [List.getElem_toArray, List.getElem_cons_zero, List.getElem_cons_succ, Act.put, List.setIfInBounds_toArray, List.set_cons_zero, List.set_cons_succ]
      refine wpAnyH_done (by kernel_rfl) ?_ _
      have HST := Lib.hid (HST.out.call HN.out.bel)
      clear z0 z1 y0 y1 p0 p1 HN HTA HTB
      clear hdf
      cases B
      · go_wp2_with (fail)
        go_loopg [9, 77] 256 (fun gk v9 v77 wr => ∃ (cc g c m T : Nat) (M : DataW Unit), cc ≤ 256 ∧ gk = 256 - cc ∧ v77 = .int .i64 cc ∧ v9 = .slice (some ⟨g, 0, none⟩) (Ap.growK D (xa, xb) k S cc).length c ∧ T ≤ 256 * k + 1 + cc ∧ m ≤ T ∧ Hid (Ap.Seen M (Ap.growK D (xa, xb) k S cc) T) ∧ St w wr (aCel gp 81 #[.int .i64 xa, .int .i64 xb] :: Ap.base w.heap.size g c gm m a0 a1 b0 b1 (Ap.growK D (xa, xb) k S cc).length (Ap.growK D (xa, xb) k S cc) M))
        case atStart => exact ⟨0, g, c, m, T, M, by omega, by omega, rfl, rfl, by omega, hm, HSE, HST.out⟩
        case round =>
          clear HST HSE
          clear hm hT
          obtain ⟨cc, g, c, m, T, M, hcc, hgk, rfl, rfl, hT, hm, HSE, hst⟩ := hrel
          have HGKC := Lib.hid hgk
          clear hgk
          by_cases hltc : cc < 256
          · have hci : (cc : Int) < 256 := by omega
            have hokc := Ap.ok_growK HG.out HOK.out hlt (k := cc) (by omega)
            rw [HX.out] at hokc
            have hlenc := Ap.ok_small HG.out hokc
            have HGS := Lib.hid (Ap.growK_succ D (xa, xb) k S cc)
            have HYA := Lib.hid (fun W hw => HOA.out W xa cc hw q2 hltc)
            have HYB := Lib.hid (fun W hw => HOB.out W xb cc hw q4 hltc)
            have ya := Ap.goTo_rg HG.out.g1 q1 q2 hltc
            have yb := Ap.goTo_rg HG.out.g2 q3 q4 hltc
            obtain ⟨y1, hy1⟩ : ∃ y, Ap.goTo D.r1 xa cc = y := ⟨_, rfl⟩
            obtain ⟨y2, hy2⟩ : ∃ y, Ap.goTo D.r2 xb cc = y := ⟨_, rfl⟩
            have HNX := Lib.hid (show Ap.nxt D (xa, xb) cc = (y1, y2) by unfold Ap.nxt; rw [hy1, hy2])
            rw [hy1] at HYA ya
            rw [hy2] at HYB yb
            clear hy1 hy2
            obtain ⟨ya1, ya2⟩ := ya
            obtain ⟨yb1, yb2⟩ := yb
            obtain ⟨kl, hkl⟩ := Ap.prKey (y1, y2) (WalkArith.wf_i64 (by simp only; omega)) (WalkArith.wf_i64 (by simp only; omega))
            obtain ⟨cnt, hat, hcT, hhas⟩ := HSE.out.look (y1, y2) kl hkl
            have HADD := Lib.hid (HSE.out.add (D := D) (x := (xa, xb)) (n := k) (c := cc) (kl := kl) (by rw [HNX.out]; exact hkl) hat)
            obtain ⟨cv, hcv⟩ : ∃ cv : Int, (cnt : Int) + 1 = cv := ⟨_, rfl⟩
            rw [hcv] at HADD
            have hput : (M.put kl (.lit (.int .i64 cv))).atKey kl (.lit (.int .i64 0)) = .lit (.int .i64 cv) := Maps.atKey_put_same HSE.out.tidy.isMap ((Maps.Keyed.of_law Ap.law).key hkl) _ _
            have HKL := Lib.hid hkl; have HAT := Lib.hid hat; have HHAS := Lib.hid hhas; have HCV := Lib.hid hcv; have HPUT := Lib.hid hput
            have hwr : IntKind.i64.wrap ((cnt : Int) + 1) = cv := by rw [hcv]; exact IntWalk.i64_in _ (by omega)
            have hcw := Lib.hid (show (Lit.int .i64 cv).wf = true from WalkArith.wf_i64 (by omega))
            have hadd1 : Hid (Ap.add1 D (xa, xb) k (Ap.growK D (xa, xb) k S cc) cc = if Ap.has (Ap.growK D (xa, xb) k S cc) (y1, y2) then (Ap.growK D (xa, xb) k S cc) else (Ap.growK D (xa, xb) k S cc) ++ [((y1, y2), (k : Int), (cc : Int))]) := Lib.hid (by unfold Ap.add1; rw [HNX.out])
            clear hkl hat hhas hcv hput hokc
            have hmx : m < 20000000 := by omega
            obtain ⟨S', hS'⟩ : ∃ S', (Ap.growK D (xa, xb) k S cc) = S' := ⟨_, rfl⟩
            rw [hS'] at HGS HHAS hadd1 hst hlenc HADD ⊢
            have HSS := Lib.hid hS'
            clear hS'
            rw [hadd1.out] at HGS HADD
            have HST := Lib.hid hst.drew
            clear hst HSE
            obtain ⟨z0, z1⟩ := HST.out.at2 4 rfl
            obtain ⟨u0, u1⟩ := HST.out.at2 3 rfl
            obtain ⟨p0, p1⟩ := HST.out.at2 0 rfl
            have HN := Lib.hid (St.init wr.drew)
            go_wp2_with (fail)
            refine Ap.shareG (P := ?PSh) (A := fun gq W => St w W (aMap 81 3 gm m M :: aCel gq 81 #[.int .i64 y1, .int .i64 y2] :: [aCel gp 81 #[.int .i64 xa, .int .i64 xb], aOwn 83 4 (.slice (some ⟨g, 0, none⟩) S'.length c) (S'.map Ap.itV), aCel (w.heap.size + 1) 25 #[b0, b1], aCel w.heap.size 25 #[a0, a1]])) (fun REST => ?h1) ?h2
            case h1 =>
              refine wp_region_held_drew (S := (fun w' => w'.cell? ⟨w.heap.size, 0, none⟩ = some a0 ∧ w'.cell? ⟨w.heap.size, 1, none⟩ = some a1 ∧ w'.cell? ⟨w.heap.size + 1, 0, none⟩ = some b0 ∧ w'.cell? ⟨w.heap.size + 1, 1, none⟩ = some b1 ∧ w'.cell? ⟨gp, 0, none⟩ = some (.int .i64 xa) ∧ w'.cell? ⟨gp, 1, none⟩ = some (.int .i64 xb))) (by kernel_rfl) ?_ (fun hHeld => ?_)
              · (try dsimp only); (exact ⟨bkeep HN.out.bel z0, bkeep HN.out.bel z1, bkeep HN.out.bel u0, bkeep HN.out.bel u1, bkeep HN.out.bel p0, bkeep HN.out.bel p1⟩)

              refine wpAnyH_take (i := 0) (v := ?_) rfl (by kernel_rfl) (by kernel_rfl) (by kernel_rfl) (fun _ _ _ h => h) (Or.inl ⟨by rfl, ?_⟩) (by assumption) ?_
              rotate_left; focus (intro w hSw; (try dsimp only at hSw); go_simp; try (with_reducible rfl); done)
              try simp only [List.getElem_toArray, List.getElem_cons_zero, List.getElem_cons_succ, Act.put, List.setIfInBounds_toArray, List.set_cons_zero, List.set_cons_succ]
              refine wpAnyH_take (i := 1) (v := ?_) rfl (by kernel_rfl) (by kernel_rfl) (by kernel_rfl) (fun _ _ _ h => h) (Or.inl ⟨by rfl, ?_⟩) (by assumption) ?_
              rotate_left; focus (intro w hSw; (try dsimp only at hSw); go_simp; try (with_reducible rfl); done)
              try simp only [List.getElem_toArray, List.getElem_cons_zero, List.getElem_cons_succ, Act.put, List.setIfInBounds_toArray, List.set_cons_zero, List.set_cons_succ]
              refine wpAnyH_take (i := 2) (v := ?_) rfl (by kernel_rfl) (by kernel_rfl) (by kernel_rfl) (fun _ _ _ h => h) (Or.inl ⟨by rfl, ?_⟩) (by assumption) ?_
              rotate_left; focus (intro w hSw; (try dsimp only at hSw); go_simp; try (with_reducible rfl); done)
              try simp only [List.getElem_toArray, List.getElem_cons_zero, List.getElem_cons_succ, Act.put, List.setIfInBounds_toArray, List.set_cons_zero, List.set_cons_succ]
              refine wpAnyH_take (i := 3) (v := ?_) rfl (by kernel_rfl) (by kernel_rfl) (by kernel_rfl) (fun _ _ _ h => h) (Or.inl ⟨by rfl, ?_⟩) (by assumption) ?_
              rotate_left; focus (intro w hSw; (try dsimp only at hSw); go_simp; try (with_reducible rfl); done)
              try simp only [List.getElem_toArray, List.getElem_cons_zero, List.getElem_cons_succ, Act.put, List.setIfInBounds_toArray, List.set_cons_zero, List.set_cons_succ]
              refine wpAnyH_take (i := 5) (v := ?_) rfl (by kernel_rfl) (by kernel_rfl) (by kernel_rfl) (fun _ _ _ h => h) (Or.inl ⟨by rfl, ?_⟩) (by assumption) ?_
              rotate_left; focus (intro w hSw; (try dsimp only at hSw); go_simp; try (with_reducible rfl); done)
              try simp only [List.getElem_toArray, List.getElem_cons_zero, List.getElem_cons_succ, Act.put, List.setIfInBounds_toArray, List.set_cons_zero, List.set_cons_succ]
              refine wpAnyH_take (i := 6) (v := ?_) rfl (by kernel_rfl) (by kernel_rfl) (by kernel_rfl) (fun _ _ _ h => h) (Or.inl ⟨by rfl, ?_⟩) (by assumption) ?_
              rotate_left; focus (intro w hSw; (try dsimp only at hSw); go_simp; try (with_reducible rfl); done)
              try simp only [List.getElem_toArray, List.getElem_cons_zero, List.getElem_cons_succ, Act.put, List.setIfInBounds_toArray, List.set_cons_zero, List.set_cons_succ]
              refine wpAnyH_take (i := 7) (v := ?_) rfl (by kernel_rfl) (by kernel_rfl) (by kernel_rfl) (fun _ _ _ h => h) (Or.inl ⟨by rfl, ?_⟩) (by assumption) ?_
              rotate_left; focus (intro w hSw; (try dsimp only at hSw); go_simp; try (with_reducible rfl); done)
              try simp only [List.getElem_toArray, List.getElem_cons_zero, List.getElem_cons_succ, Act.put, List.setIfInBounds_toArray, List.set_cons_zero, List.set_cons_succ]
              refine wpAnyH_take (i := 8) (v := ?_) rfl (by kernel_rfl) (by kernel_rfl) (by kernel_rfl) (fun _ _ _ h => h) (Or.inl ⟨by rfl, ?_⟩) (by assumption) ?_
              rotate_left; focus (intro w hSw; (try dsimp only at hSw); go_simp; try (with_reducible rfl); done)
              try simp only [List.getElem_toArray, List.getElem_cons_zero, List.getElem_cons_succ, Act.put, List.setIfInBounds_toArray, List.set_cons_zero, List.set_cons_succ]
              refine wpAnyH_ready (rs := [4, 11]) (by kernel_rfl) (by simp) ?_
              refine AllReadyH.cons rfl (fun K hK => ?_) (AllReadyH.cons rfl (fun K hK => ?_) (AllReadyH.nil))
              · skip
                go_simp
                (first | (go_at_call 36; (first | (with_reducible refine (HYA.out _ (HST.out.bel.trans (HN.out.bel.mono HST.out.bel.size))).mono ?_) | (with_reducible refine (HYB.out _ (HST.out.bel.trans (HN.out.bel.mono HST.out.bel.size))).mono ?_)); rintro e w8 ⟨rfl, hb8⟩; have HN := Lib.hid (HN.out.call hb8); clear hb8) | (refine St.stepAlloc (T := 81) (cs := #[.int .i64 0, .int .i64 0]) rfl rfl (by intro u; kernel_rfl) HN.out ?_; intro gq w8 hst8; have HN := Lib.hid hst8; clear hst8) | (refine St.stepRow rfl 81 (.tmp 16) (.tmp 90) rfl gq #[.int .i64 y1, .int .i64 y2] rfl rfl HN.out (by kernel_rfl) rfl (by simp [Value.oneCell']) ?_; intro w8 hst8; have HN := Lib.hid hst8; clear hst8))
                refine hK.out _ _ ?_ (fun hHeld => ?_)
                · (try dsimp only); (exact ⟨bkeep HN.out.bel z0, bkeep HN.out.bel z1, bkeep HN.out.bel u0, bkeep HN.out.bel u1, bkeep HN.out.bel p0, bkeep HN.out.bel p1⟩)
                clear hK K
                try simp only [List.getElem_toArray, List.getElem_cons_zero, List.getElem_cons_succ, Act.put, List.setIfInBounds_toArray, List.set_cons_zero, List.set_cons_succ]
                refine wpAnyH_ready (rs := [9, 11]) (by kernel_rfl) (by simp) ?_
                refine AllReadyH.cons rfl (fun K hK => ?_) (AllReadyH.cons rfl (fun K hK => ?_) (AllReadyH.nil))
                · skip
                  go_simp
                  (first | (go_at_call 36; (first | (with_reducible refine (HYA.out _ (HST.out.bel.trans (HN.out.bel.mono HST.out.bel.size))).mono ?_) | (with_reducible refine (HYB.out _ (HST.out.bel.trans (HN.out.bel.mono HST.out.bel.size))).mono ?_)); rintro e w8 ⟨rfl, hb8⟩; have HN := Lib.hid (HN.out.call hb8); clear hb8) | (refine St.stepAlloc (T := 81) (cs := #[.int .i64 0, .int .i64 0]) rfl rfl (by intro u; kernel_rfl) HN.out ?_; intro gq w8 hst8; have HN := Lib.hid hst8; clear hst8) | (refine St.stepRow rfl 81 (.tmp 16) (.tmp 90) rfl gq #[.int .i64 y1, .int .i64 y2] rfl rfl HN.out (by kernel_rfl) rfl (by simp [Value.oneCell']) ?_; intro w8 hst8; have HN := Lib.hid hst8; clear hst8))
                  refine hK.out _ _ ?_ (fun hHeld => ?_)
                  · (try dsimp only); (exact ⟨bkeep HN.out.bel z0, bkeep HN.out.bel z1, bkeep HN.out.bel u0, bkeep HN.out.bel u1, bkeep HN.out.bel p0, bkeep HN.out.bel p1⟩)
                  clear hK K
                  try simp only [List.getElem_toArray, List.getElem_cons_zero, List.getElem_cons_succ, Act.put, List.setIfInBounds_toArray, List.set_cons_zero, List.set_cons_succ]
                  refine wpAnyH_take (i := 10) (v := ?_) rfl (by kernel_rfl) (by kernel_rfl) (by kernel_rfl) (fun _ _ _ h => h) (Or.inl ⟨by rfl, ?_⟩) (by assumption) ?_
                  rotate_left; focus (intro w hSw; (try dsimp only at hSw); go_simp; try (with_reducible rfl); done)
                  try simp only [List.getElem_toArray, List.getElem_cons_zero, List.getElem_cons_succ, Act.put, List.setIfInBounds_toArray, List.set_cons_zero, List.set_cons_succ]
                  refine wpAnyH_ready (rs := [11]) (by kernel_rfl) (by simp) ?_
                  refine AllReadyH.cons rfl (fun K hK => ?_) (AllReadyH.nil)
                  (first | (go_at_call 36; (first | (with_reducible refine (HYA.out _ (HST.out.bel.trans (HN.out.bel.mono HST.out.bel.size))).mono ?_) | (with_reducible refine (HYB.out _ (HST.out.bel.trans (HN.out.bel.mono HST.out.bel.size))).mono ?_)); rintro e w8 ⟨rfl, hb8⟩; have HN := Lib.hid (HN.out.call hb8); clear hb8) | (refine St.stepAlloc (T := 81) (cs := #[.int .i64 0, .int .i64 0]) rfl rfl (by intro u; kernel_rfl) HN.out ?_; intro gq w8 hst8; have HN := Lib.hid hst8; clear hst8) | (refine St.stepRow rfl 81 (.tmp 16) (.tmp 90) rfl gq #[.int .i64 y1, .int .i64 y2] rfl rfl HN.out (by kernel_rfl) rfl (by simp [Value.oneCell']) ?_; intro w8 hst8; have HN := Lib.hid hst8; clear hst8))
                  refine hK.out _ _ ?_ (fun hHeld => ?_)
                  · (try dsimp only); (exact ⟨bkeep HN.out.bel z0, bkeep HN.out.bel z1, bkeep HN.out.bel u0, bkeep HN.out.bel u1, bkeep HN.out.bel p0, bkeep HN.out.bel p1⟩)
                  clear hK K
                  try simp only [List.getElem_toArray, List.getElem_cons_zero, List.getElem_cons_succ, Act.put, List.setIfInBounds_toArray, List.set_cons_zero, List.set_cons_succ]
                  refine wpAnyH_ready (rs := [12]) (by kernel_rfl) (by simp) ?_
                  refine AllReadyH.cons rfl (fun K hK => ?_) AllReadyH.nil
                  (first | (go_at_call 36; (first | (with_reducible refine (HYA.out _ (HST.out.bel.trans (HN.out.bel.mono HST.out.bel.size))).mono ?_) | (with_reducible refine (HYB.out _ (HST.out.bel.trans (HN.out.bel.mono HST.out.bel.size))).mono ?_)); rintro e w8 ⟨rfl, hb8⟩; have HN := Lib.hid (HN.out.call hb8); clear hb8) | (refine St.stepAlloc (T := 81) (cs := #[.int .i64 0, .int .i64 0]) rfl rfl (by intro u; kernel_rfl) HN.out ?_; intro gq w8 hst8; have HN := Lib.hid hst8; clear hst8) | (refine St.stepRow rfl 81 (.tmp 16) (.tmp 90) rfl gq #[.int .i64 y1, .int .i64 y2] rfl rfl HN.out (by kernel_rfl) rfl (by simp [Value.oneCell']) ?_; intro w8 hst8; have HN := Lib.hid hst8; clear hst8))
                  refine hK.out _ _ ?_ (fun hHeld => ?_)
                  · (try dsimp only); (exact ⟨bkeep HN.out.bel z0, bkeep HN.out.bel z1, bkeep HN.out.bel u0, bkeep HN.out.bel u1, bkeep HN.out.bel p0, bkeep HN.out.bel p1⟩)
                  clear hK K
                  try simp only [List.getElem_toArray, List.getElem_cons_zero, List.getElem_cons_succ, Act.put, List.setIfInBounds_toArray, List.set_cons_zero, List.set_cons_succ]
                  refine wpAnyH_done (by kernel_rfl) ?_ _
                  exact REST _ _ ((HST.out.join HN.out).pick [3, 0, 1, 2, 4, 5] 6 rfl rfl)
                · skip
                  (first | (go_at_call 36; (first | (with_reducible refine (HYA.out _ (HST.out.bel.trans (HN.out.bel.mono HST.out.bel.size))).mono ?_) | (with_reducible refine (HYB.out _ (HST.out.bel.trans (HN.out.bel.mono HST.out.bel.size))).mono ?_)); rintro e w8 ⟨rfl, hb8⟩; have HN := Lib.hid (HN.out.call hb8); clear hb8) | (refine St.stepAlloc (T := 81) (cs := #[.int .i64 0, .int .i64 0]) rfl rfl (by intro u; kernel_rfl) HN.out ?_; intro gq w8 hst8; have HN := Lib.hid hst8; clear hst8) | (refine St.stepRow rfl 81 (.tmp 16) (.tmp 90) rfl gq #[.int .i64 y1, .int .i64 y2] rfl rfl HN.out (by kernel_rfl) rfl (by simp [Value.oneCell']) ?_; intro w8 hst8; have HN := Lib.hid hst8; clear hst8))
                  refine hK.out _ _ ?_ (fun hHeld => ?_)
                  · (try dsimp only); (exact ⟨bkeep HN.out.bel z0, bkeep HN.out.bel z1, bkeep HN.out.bel u0, bkeep HN.out.bel u1, bkeep HN.out.bel p0, bkeep HN.out.bel p1⟩)
                  clear hK K
                  try simp only [List.getElem_toArray, List.getElem_cons_zero, List.getElem_cons_succ, Act.put, List.setIfInBounds_toArray, List.set_cons_zero, List.set_cons_succ]
                  refine wpAnyH_ready (rs := [9]) (by kernel_rfl) (by simp) ?_
                  refine AllReadyH.cons rfl (fun K hK => ?_) (AllReadyH.nil)
                  go_simp
                  (first | (go_at_call 36; (first | (with_reducible refine (HYA.out _ (HST.out.bel.trans (HN.out.bel.mono HST.out.bel.size))).mono ?_) | (with_reducible refine (HYB.out _ (HST.out.bel.trans (HN.out.bel.mono HST.out.bel.size))).mono ?_)); rintro e w8 ⟨rfl, hb8⟩; have HN := Lib.hid (HN.out.call hb8); clear hb8) | (refine St.stepAlloc (T := 81) (cs := #[.int .i64 0, .int .i64 0]) rfl rfl (by intro u; kernel_rfl) HN.out ?_; intro gq w8 hst8; have HN := Lib.hid hst8; clear hst8) | (refine St.stepRow rfl 81 (.tmp 16) (.tmp 90) rfl gq #[.int .i64 y1, .int .i64 y2] rfl rfl HN.out (by kernel_rfl) rfl (by simp [Value.oneCell']) ?_; intro w8 hst8; have HN := Lib.hid hst8; clear hst8))
                  refine hK.out _ _ ?_ (fun hHeld => ?_)
                  · (try dsimp only); (exact ⟨bkeep HN.out.bel z0, bkeep HN.out.bel z1, bkeep HN.out.bel u0, bkeep HN.out.bel u1, bkeep HN.out.bel p0, bkeep HN.out.bel p1⟩)
                  clear hK K
                  try simp only [List.getElem_toArray, List.getElem_cons_zero, List.getElem_cons_succ, Act.put, List.setIfInBounds_toArray, List.set_cons_zero, List.set_cons_succ]
                  refine wpAnyH_take (i := 10) (v := ?_) rfl (by kernel_rfl) (by kernel_rfl) (by kernel_rfl) (fun _ _ _ h => h) (Or.inl ⟨by rfl, ?_⟩) (by assumption) ?_
                  rotate_left; focus (intro w hSw; (try dsimp only at hSw); go_simp; try (with_reducible rfl); done)
                  try simp only [List.getElem_toArray, List.getElem_cons_zero, List.getElem_cons_succ, Act.put, List.setIfInBounds_toArray, List.set_cons_zero, List.set_cons_succ]
                  refine wpAnyH_ready (rs := [12]) (by kernel_rfl) (by simp) ?_
                  refine AllReadyH.cons rfl (fun K hK => ?_) AllReadyH.nil
                  (first | (go_at_call 36; (first | (with_reducible refine (HYA.out _ (HST.out.bel.trans (HN.out.bel.mono HST.out.bel.size))).mono ?_) | (with_reducible refine (HYB.out _ (HST.out.bel.trans (HN.out.bel.mono HST.out.bel.size))).mono ?_)); rintro e w8 ⟨rfl, hb8⟩; have HN := Lib.hid (HN.out.call hb8); clear hb8) | (refine St.stepAlloc (T := 81) (cs := #[.int .i64 0, .int .i64 0]) rfl rfl (by intro u; kernel_rfl) HN.out ?_; intro gq w8 hst8; have HN := Lib.hid hst8; clear hst8) | (refine St.stepRow rfl 81 (.tmp 16) (.tmp 90) rfl gq #[.int .i64 y1, .int .i64 y2] rfl rfl HN.out (by kernel_rfl) rfl (by simp [Value.oneCell']) ?_; intro w8 hst8; have HN := Lib.hid hst8; clear hst8))
                  refine hK.out _ _ ?_ (fun hHeld => ?_)
                  · (try dsimp only); (exact ⟨bkeep HN.out.bel z0, bkeep HN.out.bel z1, bkeep HN.out.bel u0, bkeep HN.out.bel u1, bkeep HN.out.bel p0, bkeep HN.out.bel p1⟩)
                  clear hK K
                  try simp only [List.getElem_toArray, List.getElem_cons_zero, List.getElem_cons_succ, Act.put, List.setIfInBounds_toArray, List.set_cons_zero, List.set_cons_succ]
                  refine wpAnyH_done (by kernel_rfl) ?_ _
                  exact REST _ _ ((HST.out.join HN.out).pick [3, 0, 1, 2, 4, 5] 6 rfl rfl)
              · skip
                (first | (go_at_call 36; (first | (with_reducible refine (HYA.out _ (HST.out.bel.trans (HN.out.bel.mono HST.out.bel.size))).mono ?_) | (with_reducible refine (HYB.out _ (HST.out.bel.trans (HN.out.bel.mono HST.out.bel.size))).mono ?_)); rintro e w8 ⟨rfl, hb8⟩; have HN := Lib.hid (HN.out.call hb8); clear hb8) | (refine St.stepAlloc (T := 81) (cs := #[.int .i64 0, .int .i64 0]) rfl rfl (by intro u; kernel_rfl) HN.out ?_; intro gq w8 hst8; have HN := Lib.hid hst8; clear hst8) | (refine St.stepRow rfl 81 (.tmp 16) (.tmp 90) rfl gq #[.int .i64 y1, .int .i64 y2] rfl rfl HN.out (by kernel_rfl) rfl (by simp [Value.oneCell']) ?_; intro w8 hst8; have HN := Lib.hid hst8; clear hst8))
                refine hK.out _ _ ?_ (fun hHeld => ?_)
                · (try dsimp only); (exact ⟨bkeep HN.out.bel z0, bkeep HN.out.bel z1, bkeep HN.out.bel u0, bkeep HN.out.bel u1, bkeep HN.out.bel p0, bkeep HN.out.bel p1⟩)
                clear hK K
                try simp only [List.getElem_toArray, List.getElem_cons_zero, List.getElem_cons_succ, Act.put, List.setIfInBounds_toArray, List.set_cons_zero, List.set_cons_succ]
                refine wpAnyH_ready (rs := [4]) (by kernel_rfl) (by simp) ?_
                refine AllReadyH.cons rfl (fun K hK => ?_) (AllReadyH.nil)
                go_simp
                (first | (go_at_call 36; (first | (with_reducible refine (HYA.out _ (HST.out.bel.trans (HN.out.bel.mono HST.out.bel.size))).mono ?_) | (with_reducible refine (HYB.out _ (HST.out.bel.trans (HN.out.bel.mono HST.out.bel.size))).mono ?_)); rintro e w8 ⟨rfl, hb8⟩; have HN := Lib.hid (HN.out.call hb8); clear hb8) | (refine St.stepAlloc (T := 81) (cs := #[.int .i64 0, .int .i64 0]) rfl rfl (by intro u; kernel_rfl) HN.out ?_; intro gq w8 hst8; have HN := Lib.hid hst8; clear hst8) | (refine St.stepRow rfl 81 (.tmp 16) (.tmp 90) rfl gq #[.int .i64 y1, .int .i64 y2] rfl rfl HN.out (by kernel_rfl) rfl (by simp [Value.oneCell']) ?_; intro w8 hst8; have HN := Lib.hid hst8; clear hst8))
                refine hK.out _ _ ?_ (fun hHeld => ?_)
                · (try dsimp only); (exact ⟨bkeep HN.out.bel z0, bkeep HN.out.bel z1, bkeep HN.out.bel u0, bkeep HN.out.bel u1, bkeep HN.out.bel p0, bkeep HN.out.bel p1⟩)
                clear hK K
                try simp only [List.getElem_toArray, List.getElem_cons_zero, List.getElem_cons_succ, Act.put, List.setIfInBounds_toArray, List.set_cons_zero, List.set_cons_succ]
                refine wpAnyH_ready (rs := [9]) (by kernel_rfl) (by simp) ?_
                refine AllReadyH.cons rfl (fun K hK => ?_) (AllReadyH.nil)
                go_simp
                (first | (go_at_call 36; (first | (with_reducible refine (HYA.out _ (HST.out.bel.trans (HN.out.bel.mono HST.out.bel.size))).mono ?_) | (with_reducible refine (HYB.out _ (HST.out.bel.trans (HN.out.bel.mono HST.out.bel.size))).mono ?_)); rintro e w8 ⟨rfl, hb8⟩; have HN := Lib.hid (HN.out.call hb8); clear hb8) | (refine St.stepAlloc (T := 81) (cs := #[.int .i64 0, .int .i64 0]) rfl rfl (by intro u; kernel_rfl) HN.out ?_; intro gq w8 hst8; have HN := Lib.hid hst8; clear hst8) | (refine St.stepRow rfl 81 (.tmp 16) (.tmp 90) rfl gq #[.int .i64 y1, .int .i64 y2] rfl rfl HN.out (by kernel_rfl) rfl (by simp [Value.oneCell']) ?_; intro w8 hst8; have HN := Lib.hid hst8; clear hst8))
                refine hK.out _ _ ?_ (fun hHeld => ?_)
                · (try dsimp only); (exact ⟨bkeep HN.out.bel z0, bkeep HN.out.bel z1, bkeep HN.out.bel u0, bkeep HN.out.bel u1, bkeep HN.out.bel p0, bkeep HN.out.bel p1⟩)
                clear hK K
                try simp only [List.getElem_toArray, List.getElem_cons_zero, List.getElem_cons_succ, Act.put, List.setIfInBounds_toArray, List.set_cons_zero, List.set_cons_succ]
                refine wpAnyH_take (i := 10) (v := ?_) rfl (by kernel_rfl) (by kernel_rfl) (by kernel_rfl) (fun _ _ _ h => h) (Or.inl ⟨by rfl, ?_⟩) (by assumption) ?_
                rotate_left; focus (intro w hSw; (try dsimp only at hSw); go_simp; try (with_reducible rfl); done)
                try simp only [List.getElem_toArray, List.getElem_cons_zero, List.getElem_cons_succ, Act.put, List.setIfInBounds_toArray, List.set_cons_zero, List.set_cons_succ]
                refine wpAnyH_ready (rs := [12]) (by kernel_rfl) (by simp) ?_
                refine AllReadyH.cons rfl (fun K hK => ?_) AllReadyH.nil
                (first | (go_at_call 36; (first | (with_reducible refine (HYA.out _ (HST.out.bel.trans (HN.out.bel.mono HST.out.bel.size))).mono ?_) | (with_reducible refine (HYB.out _ (HST.out.bel.trans (HN.out.bel.mono HST.out.bel.size))).mono ?_)); rintro e w8 ⟨rfl, hb8⟩; have HN := Lib.hid (HN.out.call hb8); clear hb8) | (refine St.stepAlloc (T := 81) (cs := #[.int .i64 0, .int .i64 0]) rfl rfl (by intro u; kernel_rfl) HN.out ?_; intro gq w8 hst8; have HN := Lib.hid hst8; clear hst8) | (refine St.stepRow rfl 81 (.tmp 16) (.tmp 90) rfl gq #[.int .i64 y1, .int .i64 y2] rfl rfl HN.out (by kernel_rfl) rfl (by simp [Value.oneCell']) ?_; intro w8 hst8; have HN := Lib.hid hst8; clear hst8))
                refine hK.out _ _ ?_ (fun hHeld => ?_)
                · (try dsimp only); (exact ⟨bkeep HN.out.bel z0, bkeep HN.out.bel z1, bkeep HN.out.bel u0, bkeep HN.out.bel u1, bkeep HN.out.bel p0, bkeep HN.out.bel p1⟩)
                clear hK K
                try simp only [List.getElem_toArray, List.getElem_cons_zero, List.getElem_cons_succ, Act.put, List.setIfInBounds_toArray, List.set_cons_zero, List.set_cons_succ]
                refine wpAnyH_done (by kernel_rfl) ?_ _
                exact REST _ _ ((HST.out.join HN.out).pick [3, 0, 1, 2, 4, 5] 6 rfl rfl)
            intro gq W hst
            have HM := Lib.hid hst.drew
            clear hst z0 z1 u0 u1 p0 p1 HN HST
            have q0 := HM.out.at2 1 rfl
            go_wp2_with (fail)
            refine Ap.shareE (P := ?PSh2) (A := fun _ _ W => St w W [aMap 81 3 gm (m + 1) (M.put kl (.lit (.int .i64 cv))), aCel gq 81 #[.int .i64 y1, .int .i64 y2], aCel gp 81 #[.int .i64 xa, .int .i64 xb], aOwn 83 4 (.slice (some ⟨g, 0, none⟩) S'.length c) (S'.map Ap.itV), aCel (w.heap.size + 1) 25 #[b0, b1], aCel w.heap.size 25 #[a0, a1]]) (fun REST => ?h3) ?h4
            case h3 =>
              refine wp_region_held_drew (S := (fun w' => w'.cell? ⟨gq, 0, none⟩ = some (.int .i64 y1) ∧ w'.cell? ⟨gq, 1, none⟩ = some (.int .i64 y2))) (by kernel_rfl) ?_ (fun hHeld => ?_)
              · (try dsimp only); (first | exact HM.out.at2 1 rfl | exact HE.out.at2 1 rfl | exact HM2.out.at2 1 rfl)

              refine wpAnyH_take (i := 0) (v := ?_) rfl (by kernel_rfl) (by kernel_rfl) (by kernel_rfl) (fun _ _ _ h => h) (Or.inl ⟨by rfl, ?_⟩) (by assumption) ?_
              rotate_left; focus (intro w hSw; (try dsimp only at hSw); go_simp; try (with_reducible rfl); done)
              try simp only [List.getElem_toArray, List.getElem_cons_zero, List.getElem_cons_succ, Act.put, List.setIfInBounds_toArray, List.set_cons_zero, List.set_cons_succ]
              refine wpAnyH_take (i := 1) (v := ?_) rfl (by kernel_rfl) (by kernel_rfl) (by kernel_rfl) (fun _ _ _ h => h) (Or.inl ⟨by rfl, ?_⟩) (by assumption) ?_
              rotate_left; focus (intro w hSw; (try dsimp only at hSw); go_simp; try (with_reducible rfl); done)
              try simp only [List.getElem_toArray, List.getElem_cons_zero, List.getElem_cons_succ, Act.put, List.setIfInBounds_toArray, List.set_cons_zero, List.set_cons_succ]
              refine wpAnyH_ready (rs := [2, 4]) (by kernel_rfl) (by simp) ?_
              refine AllReadyH.cons rfl (fun K hK => ?_) (AllReadyH.cons rfl (fun K hK => ?_) (AllReadyH.nil))
              · skip
                (first | (refine St.stepLook rfl (.tmp 91) (.tmp 92) rfl Ap.law Try.underlying85 Try.underlying3 Ap.zeroE HM.out.mapOwn rfl (Ap.prV (y1, y2)) rfl HKL.out cnt HAT.out ?_) | (refine St.stepLook2 rfl (.tmp 91) (.tmp 92) rfl Ap.law Try.underlying85 Try.underlying3 Ap.zeroE HE.out rfl (Ap.prV (y1, y2)) rfl HKL.out cnt HAT.out ?_) | (refine St.stepEntry rfl (.tmp 91) (.tmp 92) rfl Ap.law Try.underlying85 Try.underlying3 Ap.zeroE HM.out (by unfold maxLen; omega) rfl (Ap.prV (y1, y2)) rfl HKL.out ?_; intro v0 st w8 hst8; have HE := Lib.hid hst8; clear hst8) | (refine St.stepEntryStore rfl (.tmp 91) (.tmp 96) (.tmp 94) rfl HE.out rfl rfl (.int .i64 cv) (by first | rfl | simp [Act.eval]) (.lit (.int .i64 cv)) [] (plainElem_int Try.underlying3 hcw.out) ?_; intro w8 hst8; have HM2 := Lib.hid hst8; clear hst8))
                refine hK.out _ _ ?_ (fun hHeld => ?_)
                · (try dsimp only); (first | exact HM.out.at2 1 rfl | exact HE.out.at2 1 rfl | exact HM2.out.at2 1 rfl)
                clear hK K
                try simp only [List.getElem_toArray, List.getElem_cons_zero, List.getElem_cons_succ, Act.put, List.setIfInBounds_toArray, List.set_cons_zero, List.set_cons_succ]
                refine wpAnyH_take (i := 3) (v := ?_) rfl (by kernel_rfl) (by kernel_rfl) (by kernel_rfl) (fun _ _ _ h => h) (Or.inl ⟨by rfl, ?_⟩) (by assumption) ?_
                rotate_left; focus (intro w hSw; (try dsimp only at hSw); go_simp; try (with_reducible rfl); done)
                try simp only [List.getElem_toArray, List.getElem_cons_zero, List.getElem_cons_succ, Act.put, List.setIfInBounds_toArray, List.set_cons_zero, List.set_cons_succ]
                refine wpAnyH_ready (rs := [4]) (by kernel_rfl) (by simp) ?_
                refine AllReadyH.cons rfl (fun K hK => ?_) (AllReadyH.nil)
                (first | (refine St.stepLook rfl (.tmp 91) (.tmp 92) rfl Ap.law Try.underlying85 Try.underlying3 Ap.zeroE HM.out.mapOwn rfl (Ap.prV (y1, y2)) rfl HKL.out cnt HAT.out ?_) | (refine St.stepLook2 rfl (.tmp 91) (.tmp 92) rfl Ap.law Try.underlying85 Try.underlying3 Ap.zeroE HE.out rfl (Ap.prV (y1, y2)) rfl HKL.out cnt HAT.out ?_) | (refine St.stepEntry rfl (.tmp 91) (.tmp 92) rfl Ap.law Try.underlying85 Try.underlying3 Ap.zeroE HM.out (by unfold maxLen; omega) rfl (Ap.prV (y1, y2)) rfl HKL.out ?_; intro v0 st w8 hst8; have HE := Lib.hid hst8; clear hst8) | (refine St.stepEntryStore rfl (.tmp 91) (.tmp 96) (.tmp 94) rfl HE.out rfl rfl (.int .i64 cv) (by first | rfl | simp [Act.eval]) (.lit (.int .i64 cv)) [] (plainElem_int Try.underlying3 hcw.out) ?_; intro w8 hst8; have HM2 := Lib.hid hst8; clear hst8))
                refine hK.out _ _ ?_ (fun hHeld => ?_)
                · (try dsimp only); (first | exact HM.out.at2 1 rfl | exact HE.out.at2 1 rfl | exact HM2.out.at2 1 rfl)
                clear hK K
                try simp only [List.getElem_toArray, List.getElem_cons_zero, List.getElem_cons_succ, Act.put, List.setIfInBounds_toArray, List.set_cons_zero, List.set_cons_succ]
                refine wpAnyH_take (i := 5) (v := ?_) rfl (by kernel_rfl) (by kernel_rfl) (by kernel_rfl) (fun _ _ _ h => h) (Or.inl ⟨by rfl, ?_⟩) (by assumption) ?_
                rotate_left; focus (intro w hSw; (try dsimp only at hSw); go_simp; try (with_reducible rfl); done)
                try simp only [List.getElem_toArray, List.getElem_cons_zero, List.getElem_cons_succ, Act.put, List.setIfInBounds_toArray, List.set_cons_zero, List.set_cons_succ]
                refine wpAnyH_ready (rs := [6]) (by kernel_rfl) (by simp) ?_
                refine AllReadyH.cons rfl (fun K hK => ?_) AllReadyH.nil
                (first | (refine St.stepLook rfl (.tmp 91) (.tmp 92) rfl Ap.law Try.underlying85 Try.underlying3 Ap.zeroE HM.out.mapOwn rfl (Ap.prV (y1, y2)) rfl HKL.out cnt HAT.out ?_) | (refine St.stepLook2 rfl (.tmp 91) (.tmp 92) rfl Ap.law Try.underlying85 Try.underlying3 Ap.zeroE HE.out rfl (Ap.prV (y1, y2)) rfl HKL.out cnt HAT.out ?_) | (refine St.stepEntry rfl (.tmp 91) (.tmp 92) rfl Ap.law Try.underlying85 Try.underlying3 Ap.zeroE HM.out (by unfold maxLen; omega) rfl (Ap.prV (y1, y2)) rfl HKL.out ?_; intro v0 st w8 hst8; have HE := Lib.hid hst8; clear hst8) | (refine St.stepEntryStore rfl (.tmp 91) (.tmp 96) (.tmp 94) rfl HE.out rfl rfl (.int .i64 cv) (by first | rfl | simp [Act.eval]) (.lit (.int .i64 cv)) [] (plainElem_int Try.underlying3 hcw.out) ?_; intro w8 hst8; have HM2 := Lib.hid hst8; clear hst8))
                refine hK.out _ _ ?_ (fun hHeld => ?_)
                · (try dsimp only); (first | exact HM.out.at2 1 rfl | exact HE.out.at2 1 rfl | exact HM2.out.at2 1 rfl)
                clear hK K
                try simp only [List.getElem_toArray, List.getElem_cons_zero, List.getElem_cons_succ, Act.put, List.setIfInBounds_toArray, List.set_cons_zero, List.set_cons_succ]
                refine wpAnyH_done (by kernel_rfl) ?_ _
                exact REST v0 st _ HM2.out
              · skip
                (first | (refine St.stepLook rfl (.tmp 91) (.tmp 92) rfl Ap.law Try.underlying85 Try.underlying3 Ap.zeroE HM.out.mapOwn rfl (Ap.prV (y1, y2)) rfl HKL.out cnt HAT.out ?_) | (refine St.stepLook2 rfl (.tmp 91) (.tmp 92) rfl Ap.law Try.underlying85 Try.underlying3 Ap.zeroE HE.out rfl (Ap.prV (y1, y2)) rfl HKL.out cnt HAT.out ?_) | (refine St.stepEntry rfl (.tmp 91) (.tmp 92) rfl Ap.law Try.underlying85 Try.underlying3 Ap.zeroE HM.out (by unfold maxLen; omega) rfl (Ap.prV (y1, y2)) rfl HKL.out ?_; intro v0 st w8 hst8; have HE := Lib.hid hst8; clear hst8) | (refine St.stepEntryStore rfl (.tmp 91) (.tmp 96) (.tmp 94) rfl HE.out rfl rfl (.int .i64 cv) (by first | rfl | simp [Act.eval]) (.lit (.int .i64 cv)) [] (plainElem_int Try.underlying3 hcw.out) ?_; intro w8 hst8; have HM2 := Lib.hid hst8; clear hst8))
                refine hK.out _ _ ?_ (fun hHeld => ?_)
                · (try dsimp only); (first | exact HM.out.at2 1 rfl | exact HE.out.at2 1 rfl | exact HM2.out.at2 1 rfl)
                clear hK K
                try simp only [List.getElem_toArray, List.getElem_cons_zero, List.getElem_cons_succ, Act.put, List.setIfInBounds_toArray, List.set_cons_zero, List.set_cons_succ]
                refine wpAnyH_take (i := 5) (v := ?_) rfl (by kernel_rfl) (by kernel_rfl) (by kernel_rfl) (fun _ _ _ h => h) (Or.inl ⟨by rfl, ?_⟩) (by assumption) ?_
                rotate_left; focus (intro w hSw; (try dsimp only at hSw); go_simp; try (with_reducible rfl); done)
                try simp only [List.getElem_toArray, List.getElem_cons_zero, List.getElem_cons_succ, Act.put, List.setIfInBounds_toArray, List.set_cons_zero, List.set_cons_succ]
                refine wpAnyH_ready (rs := [2]) (by kernel_rfl) (by simp) ?_
                refine AllReadyH.cons rfl (fun K hK => ?_) (AllReadyH.nil)
                (first | (refine St.stepLook rfl (.tmp 91) (.tmp 92) rfl Ap.law Try.underlying85 Try.underlying3 Ap.zeroE HM.out.mapOwn rfl (Ap.prV (y1, y2)) rfl HKL.out cnt HAT.out ?_) | (refine St.stepLook2 rfl (.tmp 91) (.tmp 92) rfl Ap.law Try.underlying85 Try.underlying3 Ap.zeroE HE.out rfl (Ap.prV (y1, y2)) rfl HKL.out cnt HAT.out ?_) | (refine St.stepEntry rfl (.tmp 91) (.tmp 92) rfl Ap.law Try.underlying85 Try.underlying3 Ap.zeroE HM.out (by unfold maxLen; omega) rfl (Ap.prV (y1, y2)) rfl HKL.out ?_; intro v0 st w8 hst8; have HE := Lib.hid hst8; clear hst8) | (refine St.stepEntryStore rfl (.tmp 91) (.tmp 96) (.tmp 94) rfl HE.out rfl rfl (.int .i64 cv) (by first | rfl | simp [Act.eval]) (.lit (.int .i64 cv)) [] (plainElem_int Try.underlying3 hcw.out) ?_; intro w8 hst8; have HM2 := Lib.hid hst8; clear hst8))
                refine hK.out _ _ ?_ (fun hHeld => ?_)
                · (try dsimp only); (first | exact HM.out.at2 1 rfl | exact HE.out.at2 1 rfl | exact HM2.out.at2 1 rfl)
                clear hK K
                try simp only [List.getElem_toArray, List.getElem_cons_zero, List.getElem_cons_succ, Act.put, List.setIfInBounds_toArray, List.set_cons_zero, List.set_cons_succ]
                refine wpAnyH_take (i := 3) (v := ?_) rfl (by kernel_rfl) (by kernel_rfl) (by kernel_rfl) (fun _ _ _ h => h) (Or.inl ⟨by rfl, ?_⟩) (by assumption) ?_
                rotate_left; focus (intro w hSw; (try dsimp only at hSw); go_simp; try (with_reducible rfl); done)
                try simp only [List.getElem_toArray, List.getElem_cons_zero, List.getElem_cons_succ, Act.put, List.setIfInBounds_toArray, List.set_cons_zero, List.set_cons_succ]
                refine wpAnyH_ready (rs := [6]) (by kernel_rfl) (by simp) ?_
                refine AllReadyH.cons rfl (fun K hK => ?_) AllReadyH.nil
                (first | (refine St.stepLook rfl (.tmp 91) (.tmp 92) rfl Ap.law Try.underlying85 Try.underlying3 Ap.zeroE HM.out.mapOwn rfl (Ap.prV (y1, y2)) rfl HKL.out cnt HAT.out ?_) | (refine St.stepLook2 rfl (.tmp 91) (.tmp 92) rfl Ap.law Try.underlying85 Try.underlying3 Ap.zeroE HE.out rfl (Ap.prV (y1, y2)) rfl HKL.out cnt HAT.out ?_) | (refine St.stepEntry rfl (.tmp 91) (.tmp 92) rfl Ap.law Try.underlying85 Try.underlying3 Ap.zeroE HM.out (by unfold maxLen; omega) rfl (Ap.prV (y1, y2)) rfl HKL.out ?_; intro v0 st w8 hst8; have HE := Lib.hid hst8; clear hst8) | (refine St.stepEntryStore rfl (.tmp 91) (.tmp 96) (.tmp 94) rfl HE.out rfl rfl (.int .i64 cv) (by first | rfl | simp [Act.eval]) (.lit (.int .i64 cv)) [] (plainElem_int Try.underlying3 hcw.out) ?_; intro w8 hst8; have HM2 := Lib.hid hst8; clear hst8))
                refine hK.out _ _ ?_ (fun hHeld => ?_)
                · (try dsimp only); (first | exact HM.out.at2 1 rfl | exact HE.out.at2 1 rfl | exact HM2.out.at2 1 rfl)
                clear hK K
                try simp only [List.getElem_toArray, List.getElem_cons_zero, List.getElem_cons_succ, Act.put, List.setIfInBounds_toArray, List.set_cons_zero, List.set_cons_succ]
                refine wpAnyH_done (by kernel_rfl) ?_ _
                exact REST v0 st _ HM2.out
            intro v0 st W2 hst
            have HST := Lib.hid hst
            obtain ⟨q0, q1⟩ := hst.at2 1 rfl
            have hkc : ((cv : Int) == 1) = !(Ap.has S' (y1, y2)) := by
              have h1 := HHAS.out
              have h2 := HCV.out
              cases h : Ap.has S' (y1, y2)
              · have : ¬ 0 < cnt := fun h3 => by rw [h1.1 h3] at h; cases h
                simp; omega
              · have := h1.2 h
                simp; omega
            obtain ⟨B, hB⟩ : ∃ B, Ap.has S' (y1, y2) = B := ⟨_, rfl⟩
            rw [hB] at hkc HGS HADD
            clear hst hB
            have hSK : (S'.length : Int) ≤ 40401 := hlenc
            cases B
            · simp only [Bool.not_false] at hkc
              simp only [Bool.false_eq_true, if_false] at HGS HADD
              have HAP := Lib.hid (HST.out.pick (ρ := aOwn 83 4 (.slice (some ⟨g, 0, none⟩) S'.length c) (S'.map Ap.itV) :: [aMap 81 3 gm (m + 1) (M.put kl (.lit (.int .i64 cv))), aCel gp 81 #[.int .i64 xa, .int .i64 xb], aCel (w.heap.size + 1) 25 #[b0, b1], aCel w.heap.size 25 #[a0, a1]]) [3, 0, 2, 4, 5] 6 rfl rfl)
              have HOWN := Lib.hid (HST.out.mapOwn)
              go_wp2_with (first | (at_lookup; refine wpList_lookup_own_int _ rfl _ _ 85 rfl 81 3 .i64 (Maps.Keyed.of_law Ap.law) Try.underlying85 Try.underlying3 (Ap.zeroE _) gm (m + 1) _ rfl HOWN.out (Ap.prV (y1, y2)) kl rfl HKL.out ?_; intro cx hax hwx; have hcx := (by have h9 := hax.symm.trans HPUT.out; simp only [DataW.lit.injEq, Lit.int.injEq, true_and] at h9; exact h9); subst hcx; clear hax hwx) | (at_builtin; refine St.app1n Ap.itE rfl (.tmp 101) (.tmp 107) rfl rfl HAP.out (Ap.itV ((y1, y2), (k : Int), (cc : Int))) rfl W2.heap.size 1 rfl rfl rfl (Ap.itV_one _) (by rw [List.length_map]; unfold maxLen; omega) (by rw [List.length_map]; omega) ?_; intro g' n' c' w9 hst9; have HST9 := Lib.hid hst9; clear hst9))
              go_roundg (256 - (cc + 1))
              case measure => have := HGKC.out; omega
              case rel =>
                refine ⟨cc + 1, g', c', m + 1, T + 1, _, by omega, rfl, by go_num, by rw [HGS.out]; exact slice_eq (by simpa using (HST9.out.nth 0 rfl).own.len), by omega, by omega, Lib.hid (by rw [HGS.out]; exact HADD.out), ?_⟩
                have h9 := HST9.out
                have hn := (h9.nth 0 rfl).own.len
                rw [← List.map_singleton (f := Ap.itV), ← List.map_append] at h9
                have hn2 : n' = (S' ++ [((y1, y2), (k : Int), (cc : Int))]).length := by simpa using hn
                subst hn2
                rw [HGS.out]
                exact h9.pick [2, 0, 1, 3, 4] 5 rfl rfl
            · simp only [Bool.not_true] at hkc
              simp only [if_true] at HGS HADD
              have HOWN := Lib.hid (HST.out.mapOwn)
              go_wp2_with ((at_lookup; refine wpList_lookup_own_int _ rfl _ _ 85 rfl 81 3 .i64 (Maps.Keyed.of_law Ap.law) Try.underlying85 Try.underlying3 (Ap.zeroE _) gm (m + 1) _ rfl HOWN.out (Ap.prV (y1, y2)) kl rfl HKL.out ?_; intro cx hax hwx; have hcx := (by have h9 := hax.symm.trans HPUT.out; simp only [DataW.lit.injEq, Lit.int.injEq, true_and] at h9; exact h9); subst hcx; clear hax hwx))
              go_roundg (256 - (cc + 1))
              case measure => have := HGKC.out; omega
              case rel => exact ⟨cc + 1, g, c, m + 1, T + 1, _, by omega, rfl, by go_num, by rw [HGS.out], by omega, by omega, Lib.hid (by rw [HGS.out]; exact HADD.out), by rw [HGS.out]; exact HST.out.pick [2, 3, 0, 4, 5] 6 rfl rfl⟩
          · obtain rfl : cc = 256 := by omega
            have HST := Lib.hid hst
            clear hst
            have hq := HQS.out hlt
            rw [show Ap.grow D S k = Ap.growK D (xa, xb) k S 256 by unfold Ap.grow; rw [HX.out]] at hq
            have HQ1 := Lib.hid hq
            clear hq
            go_wp2
            go_roundg (50000 - (k + 1))
            case measure => have := HGK.out; omega
            case rel =>
              refine ⟨k + 1, g, c, m, T, M, ?_, rfl, by go_num, by rw [HQ1.out], by omega, hm, Lib.hid (fun j hj => ?_), Lib.hid (by rw [HQ1.out]; exact HSE.out), by rw [HQ1.out]; exact HST.out.drop⟩
              · rw [HQ1.out]
                have := Ap.growK_len D (xa, xb) k S 256
                omega
              · rw [HQ1.out, Ap.growK_at (by omega)]
                by_cases e : j = k
                · subst e; rw [HX.out]; exact HB.out
                · exact HEQ.out j (by omega)
      · go_wp2_with (fail)
        go_loopg [13, 14] k (fun gk v13 v14 wr => ∃ (i : Nat) (vo : Value) (pre : List Int), i ≤ k ∧ gk = i ∧ v14 = .int .i64 i ∧ vo = v13 ∧ Hid (pre ++ Ap.path S i i = Ap.path S k k) ∧ St w wr (aOwn 5 1 vo (pre.map Rev.bV) :: Ap.base w.heap.size g c gm m a0 a1 b0 b1 S.length S M))
        case atStart => exact ⟨k, _, [], by omega, rfl, rfl, rfl, Lib.hid rfl, HST.out.drop.nilOwn _ _⟩
        case round =>
          clear HST
          obtain ⟨i, vo, pre, hi, hgk, rfl, rfl, HP, hst⟩ := hrel
          have HGKI := Lib.hid hgk
          clear hgk
          have hpl : (pre.length : Int) ≤ 40401 := by
            have h1 := Ap.path_len S k k
            rw [← HP.out, List.length_append] at h1
            omega
          have hil : i < S.length := by omega
          obtain ⟨-, -, r2, r3⟩ := Ap.itemAt (hst.nth 1 rfl).own (by omega) hil
          by_cases h0 : i = 0
          · subst h0
            rw [HOK.out.zero] at r2
            obtain ⟨z, hz⟩ : ∃ z, (Ap.z0).2.1 = z := ⟨_, rfl⟩
            rw [hz] at r2
            have hz0 : ¬ 0 ≤ z := by rw [← hz]; decide
            have HPT := Lib.hid (show Ap.txt S k = pre.reverse by rw [Ap.txt, ← HP.out, Ap.path_stop HOK.out, List.append_nil])
            have HREV := Lib.hid (fun W (h : St w W (aOwn 5 1 vo (pre.map Rev.bV) :: Ap.base w.heap.size g c gm m a0 a1 b0 b1 S.length S M)) => reverse_any pre vo w W _ h (by omega))
            have HST := Lib.hid hst
            clear hst hz r3
            have hz1 : decide (0 ≤ z) = false := decide_eq_false hz0
            go_wp2_with (fail)
            go_at_call 35
            refine (HREV.out _ HST.out).mono ?_
            rintro e w9 ⟨rfl, hst9⟩
            have hcv : (convert 87 9 vo).run Try.prog w9 = .ok (.string (strOfNums pre.reverse)) w9 := convOwn Try.underlying87 Try.underlying5 Try.underlying9 pre.reverse (hst9.ok _ (.head _))
            have HST9 := Lib.hid hst9
            clear hst9 r2
            go_wp2
            go_ret3
            exact ⟨pre.reverse, true, rfl, Lib.hid (HSAY.out _ _ (.inl ⟨hlt, by first | rfl | trivial, HPT.out.symm, rfl⟩)), HST9.out.bel⟩
          · have hup := HOK.out.up i (by omega) hil
            have hps := Ap.path_step HOK.out (show 0 < i by omega) hil
            have hby := HOK.out.by_ i hil
            obtain ⟨u, hu⟩ := Int.eq_ofNat_of_zero_le hup.1
            rw [hu] at hup hps r2
            rw [Int.toNat_natCast] at hps
            generalize (Ap.at' S i).2.2 = by' at *
            have HPS := Lib.hid hps
            have HU := Lib.hid hu
            have hu0 : (0 : Int) ≤ u := by omega
            have hui : u < i := by omega
            obtain ⟨hby0, hby1⟩ := hby
            have HST := Lib.hid hst
            clear hst hps hu hup h0
            go_wp2_with (at_builtin; refine St.app1n u8E rfl (.tmp 65) (.tmp 71) rfl rfl HST.out (.int .u8 by') rfl wr.heap.size 1 rfl rfl rfl (by intro q hq; simp [Value.cells] at hq; subst hq; rfl) (by rw [List.length_map]; unfold maxLen; omega) (by rw [List.length_map]; omega) ?_; intro g' n' c' w9 hst9; obtain ⟨-, -, r2, -⟩ := Ap.itemAt (hst9.nth 1 rfl).own (by omega) hil; rw [HU.out] at r2; have HST9 := Lib.hid hst9; clear hst9 HST r3)
            go_roundg u
            case measure => have := HGKI.out; omega
            case rel => exact ⟨u, _, pre ++ [by'], by omega, rfl, rfl, rfl, Lib.hid (by rw [List.append_assoc, ← HP.out, HPS.out]; rfl), by rw [List.map_append]; exact HST9.out⟩
    · obtain rfl : S.length = k := by omega
      have HST := Lib.hid hst
      clear hst
      go_wp2
      go_ret3
      exact ⟨[], false, rfl, Lib.hid (HSAY.out _ _ (.inr ⟨by first | rfl | trivial, rfl, rfl⟩)), HST.out.bel⟩
end Go.Proofs.Ytbpjmdemmmdnbaa
