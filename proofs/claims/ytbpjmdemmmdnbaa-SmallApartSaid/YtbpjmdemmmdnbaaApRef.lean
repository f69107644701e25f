/-
  Apart of the reference: what it computes.
-/
import Derived.Test.YtbpjmdemmmdnbaaApR
import Derived.Test.YtbpjmdemmmdnbaaApProg
import Derived.Laws.EntriesVeiled
namespace Go.Proofs.Ytbpjmdemmmdnbaa
set_option linter.unusedVariables false
set_option linter.unusedSimpArgs false
open Go.ChangeShapes Go.WideShapes Go.ChangeAt Go.RowKit

theorem Ap.callC {c : Nat} {fn : Func} (hf : Try.prog.funcs[c]? = some fn) (hn : (fn.name == "runtime.NumGoroutine") = false) (hb : fn.body.isNone = false) (args : Array Value) (W : World) : (callFunc c args).run Try.prog W = .ok (.enter c args) W := by
  have hn2 : ¬ fn.name = "runtime.NumGoroutine" := fun e => by rw [e] at hn; simp at hn
  have hb2 : ¬ fn.body = none := fun e => by rw [e] at hb; cases hb
  simp [callFunc, go_sem, hf, hn2, hb2]
def Ap.sV (s : ByteArray) : Value := .string s
theorem Ap.twE : ET Try.prog 96 94 2 16 := ET.mk' Try.underlying96 (z := .agg #[.int .i64 0, .int .i64 0]) (by kernel_rfl) rfl (by decide)
theorem Ap.strE : ET Try.prog 97 9 1 16 := ET.mk' Try.underlying97 (z := .string ⟨#[]⟩) (by kernel_rfl) rfl (by decide)
abbrev Ap.bR (S gs : Nat) (a0 a1 b0 b1 : Value) (bs : List Bool) (vn vt : Value) (P : List Ap.Pr) (X : List ByteArray) : List Asrt :=
  [aOwn 4 1 (.slice (some ⟨gs, 0, none⟩) 40602 40602) (bs.map Value.bool), aOwn 94 2 vn (P.map Ap.prV), aOwn 9 1 vt (X.map Ap.sV), aCel (S + 1) 25 #[b0, b1], aCel S 25 #[a0, a1]]
theorem Ap.twAt {w : World} {B n c k : Nat} {a : Option Addr} {P : List Ap.Pr} (h : Own w B 94 2 (.slice a n c) (P.map Ap.prV)) (hl : (P.length : Int) ≤ 140737488355328) (hk : k < P.length) :
    ∃ g, a = some ⟨g, 0, none⟩ ∧ w.cell? ⟨g, k * 2, none⟩ = some (.int .i64 (P.getD k (0, 0)).1) ∧ w.cell? ⟨g, k * 2 + 1, none⟩ = some (.int .i64 (P.getD k (0, 0)).2) := by
  obtain ⟨g, rfl⟩ := h.addr (by rw [List.length_map]; omega)
  obtain ⟨_, b, o, _, hv, _, ha, hc⟩ := h.rowN (f := Ap.prV) (size := 2) (fun _ => rfl) (0, 0) hl
  simp only [Value.slice.injEq, Option.some.injEq] at hv
  obtain ⟨rfl, _, _⟩ := hv
  have ha2 := ha (by omega)
  simp only [Option.some.injEq, Addr.mk.injEq, and_true] at ha2
  obtain ⟨rfl, rfl⟩ := ha2
  have h0 := hc k hk 0 (by decide)
  have h1 := hc k hk 1 (by decide)
  rw [Nat.zero_add] at h0 h1
  exact ⟨_, rfl, h0, h1⟩
theorem rSpot_any (x : Ap.Pr) (hx : Ap.In x) (w : World) : Calls Try.prog 38 #[Ap.prV x] w fun e w' => e = .returned (.int .i64 (Ap.spot x : Nat)) ∧ Below w.heap.size w w' := by
  rw [Ap.spot_eq hx]
  obtain ⟨h1, h2, h3, h4⟩ := hx
  exact rAt_any x w h1 h2 h3 h4
theorem Ap.texts0 : Ap.texts [Ap.z0] 0 = [⟨#[]⟩] := by
  simp [Ap.texts, Ap.txt, Ap.path, strOfNums]
abbrev Ap.b4 (S gs : Nat) (a0 a1 b0 b1 : Value) (bs : List Bool) (v1 v2 vn vt : Value) (P1 : List Ap.Pr) (X1 : List ByteArray) (P : List Ap.Pr) (X : List ByteArray) : List Asrt :=
  [aOwn 4 1 (.slice (some ⟨gs, 0, none⟩) 40602 40602) (bs.map Value.bool), aOwn 94 2 v1 (P1.map Ap.prV), aOwn 9 1 v2 (X1.map Ap.sV), aOwn 94 2 vn (P.map Ap.prV), aOwn 9 1 vt (X.map Ap.sV), aCel (S + 1) 25 #[b0, b1], aCel S 25 #[a0, a1]]
def RetAr (D : Ap.Two) (w : World) (e : Ending) (w' : World) : Prop := ∃ (l : List Int) (is : Bool), e = .returned (.tuple #[.string (strOfNums l), .bool is]) ∧ Hid (Ap.Says D l is) ∧ Below w.heap.size w w'

set_option maxRecDepth 100000 in
set_option maxHeartbeats 8000000 in
theorem rapart_ok (va vb : Value) (D : Ap.Two) (w : World) (ha : DfaAt w va D.r1 D.t1) (hb : DfaAt w vb D.r2 D.t2) (he : Aut.err D.r1 D.t1 = 0) (he2 : Aut.err D.r2 D.t2 = 0) :
    Calls Try.prog 11 #[va, vb] w (RetAr D w) := by
  obtain ⟨a0, a1, rfl, -, -⟩ := id ha
  obtain ⟨b0, b1, rfl, -, -⟩ := id hb
  obtain ⟨n1, p1, l1, g1⟩ := Aut.err_good _ _ he
  obtain ⟨n2, p2, l2, g2⟩ := Aut.err_good _ _ he2
  have HG := Lib.hid (show Ap.Good D from ⟨n1, n2, p1, p2, fun i hi => (g1 i hi).2, fun i hi => (g2 i hi).2⟩)
  have HTA := Lib.hid (fun (w' : World) (q : Int) (hw : Below w.heap.size w w') (hq : q < D.r1.length) => rtagOf_any _ D.r1 D.t1 q w' (ha.below hw) (by rw [l1]; exact hq))
  have HTB := Lib.hid (fun (w' : World) (q : Int) (hw : Below w.heap.size w w') (hq : q < D.r2.length) => rtagOf_any _ D.r2 D.t2 q w' (hb.below hw) (by rw [l2]; exact hq))
  have HOA := Lib.hid (fun (w' : World) (q : Int) (c : Nat) (hw : Below w.heap.size w w') (hq : q < D.r1.length) (hc : c < 256) => rNext_any _ D.r1 D.t1 q c w' (ha.below hw) hq hc)
  have HOB := Lib.hid (fun (w' : World) (q : Int) (c : Nat) (hw : Below w.heap.size w w') (hq : q < D.r2.length) (hc : c < 256) => rNext_any _ D.r2 D.t2 q c w' (hb.below hw) hq hc)
  have hn1 : (D.r1.length : Int) ≤ 200 := by omega
  have hn2 : (D.r2.length : Int) ≤ 200 := by omega
  have hst := ((St.init w).alloc #[a0, a1] 25).alloc #[b0, b1] 25
  simp only [World.size_alloc] at hst
  have HST := Lib.hid hst
  clear ha hb he he2 hst n1 n2 p1 p2 l1 l2 g1 g2
  have hc1 := fun args W => Ap.callC (c := 37) Try.func37 (by kernel_rfl) (by kernel_rfl) args W
  have hc2 := fun args W => Ap.callC (c := 38) Try.func38 (by kernel_rfl) (by kernel_rfl) args W
  go_enter Try.func11, Try.ntmps11
  go_wp2_with (refine St.make rfl (.const (.int .i64 40602)) rfl Try.underlying43 (z := .bool false) (bytes := 1) (by kernel_rfl) rfl HST.out 40602 rfl (by omega) (by decide) ?_; intro gs w1 hst1; have HST1 := Lib.hid hst1; clear hst1 HST)
  have hM := (((HST1.out.alloc #[.int .i64 0, .int .i64 0] 94).turn (A' := aOwn 94 2 (.slice (some ⟨w1.heap.size, 0, none⟩) 1 1) [Ap.prV (0, 0)]) rfl (Ap.own_one (u := Ap.prV (0, 0)) (heap_alloc_new _ _) rfl)).alloc #[.string ⟨#[]⟩] 9).turn (A' := aOwn 9 1 (.slice (some ⟨w1.heap.size + 1, 0, none⟩) 1 1) [Ap.sV ⟨#[]⟩]) (by simp [aOwn, aCel, Value.ownBlock]) (Ap.own_one (u := Ap.sV ⟨#[]⟩) (by rw [show w1.heap.size + 1 = (w1.alloc (.cells #[.int .i64 0, .int .i64 0] 94)).heap.size by simp]; exact heap_alloc_new _ _) rfl)
  have HM := Lib.hid hM
  clear hM
  go_at_call 38
  have hin0 : Ap.In (0, 0) := by unfold Ap.In; simp
  refine (rSpot_any (0, 0) hin0 _).mono ?_
  rintro e w2 ⟨rfl, hb2⟩
  generalize w1.heap.size + 1 = gt at *
  generalize w1.heap.size = gn at *
  have HM2 := Lib.hid (HM.out.call hb2)
  clear hb2 HM HST1
  have hsp : Ap.spot (0, 0) < 40602 := Ap.spot_lt hin0
  have hb := (show St w w2 (aOwn 4 1 (.slice (some ⟨gs, 0, none⟩) 40602 40602) ((List.replicate 40602 false).map Value.bool) :: [aOwn 94 2 (.slice (some ⟨gn, 0, none⟩) 1 1) [Ap.prV (0, 0)], aOwn 9 1 (.slice (some ⟨gt, 0, none⟩) 1 1) [Ap.sV ⟨#[]⟩], aCel (w.heap.size + 1) 25 #[b0, b1], aCel w.heap.size 25 #[a0, a1]]) from by
    have h := HM2.out.pick (ρ := [aOwn 4 1 (.slice (some ⟨gs, 0, none⟩) 40602 40602) (List.replicate 40602 (.bool false)), aOwn 94 2 (.slice (some ⟨gn, 0, none⟩) 1 1) [Ap.prV (0, 0)], aOwn 9 1 (.slice (some ⟨gt, 0, none⟩) 1 1) [Ap.sV ⟨#[]⟩], aCel (w.heap.size + 1) 25 #[b0, b1], aCel w.heap.size 25 #[a0, a1]]) [2, 1, 0, 3, 4] 5 rfl rfl
    rw [List.map_replicate]
    exact h)
  obtain ⟨s0, s1⟩ := hb.cellOwn (f := Value.bool) (fun _ => rfl) (Ap.spot (0, 0)) (by rw [List.length_replicate]; exact hsp) false
  generalize (List.replicate 40602 false).getD (Ap.spot (0, 0)) false = sv at *
  have HST := Lib.hid (hb.setOwn (f := Value.bool) (fun _ => rfl) (Ap.spot (0, 0)) true)
  have hspi : ((Ap.spot (0, 0) : Nat) : Int) < 40602 := by omega
  obtain ⟨bs0, hbs0⟩ : ∃ bs0, (List.replicate 40602 false).set (Ap.spot (0, 0)) true = bs0 := ⟨_, rfl⟩
  have HB0 : Hid (Ap.Tick bs0 (Ap.Q D 0)) := Lib.hid (by rw [← hbs0]; exact Ap.Tick.init)
  rw [hbs0] at HST
  clear hbs0
  generalize Ap.spot (0, 0) = sp0 at *
  clear hb HM2
  go_wp2_with (fail)
  go_loopg [9, 10] 50000 (fun gk v9 v10 wr => ∃ (m : Nat) (vn vt : Value) (bs : List Bool), m ≤ (Ap.Q D m).length ∧ gk = 50000 - m ∧ vn = v9 ∧ vt = v10 ∧ Hid (∀ j, j < m → Ap.diff D (Ap.at' (Ap.Q D m) j).1 = false) ∧ Hid (Ap.Tick bs (Ap.Q D m)) ∧ St w wr (Ap.bR w.heap.size gs a0 a1 b0 b1 bs vn vt (Ap.pairs (Ap.Q D m) m) (Ap.texts (Ap.Q D m) m)))
  case atStart =>
    refine ⟨0, _, _, bs0, by simp [Ap.Q], rfl, rfl, rfl, Lib.hid (fun j hj => by omega), HB0, ?_⟩
    rw [show Ap.pairs (Ap.Q D 0) 0 = [(0, 0)] from rfl, show Ap.texts (Ap.Q D 0) 0 = [⟨#[]⟩] from Ap.texts0]
    exact HST.out
  case round =>
    clear HST
    obtain ⟨m, vn, vt, bs, hm, hgk, rfl, rfl, HEQ, HTK, hst⟩ := hrel
    have HGK := Lib.hid hgk
    clear hgk
    have hok := Ap.ok_Q HG.out m
    have hlen := Ap.ok_small HG.out hok
    have hpl := Ap.pairs_len (Ap.Q D m) m
    have htl := Ap.texts_len (Ap.Q D m) m
    have HOK := Lib.hid hok
    obtain ⟨an, cn, hvn⟩ := (hst.nth 1 rfl).own.isLen
    obtain ⟨at_, ct, hvt⟩ := (hst.nth 2 rfl).own.isLen
    rw [List.length_map] at hvn hvt
    subst hvn hvt
    obtain ⟨L, hL⟩ : ∃ L, (Ap.Q D m).length - m = L := ⟨_, rfl⟩
    rw [hL] at hpl htl
    have hLS : (Ap.Q D m).length = m + L := by omega
    have HLS := Lib.hid hLS
    have HPL := Lib.hid hpl; have HTL := Lib.hid htl
    have HSAY := Lib.hid (fun (k : Nat) l is (hall : ∀ j, j < k → Ap.diff D (Ap.at' (Ap.Q D k) j).1 = false) h => (show Ap.Says D l is from ⟨k, hall, h⟩))
    rw [hpl, htl] at hst ⊢
    by_cases hlt : 0 < L
    · have hLi : (0 : Int) < L := by omega
      have hL2 : (L : Int) ≤ 40401 := by omega
      have HST := Lib.hid hst
      clear hst hok hpl htl hL hLS hlen hm
      go_wp2_with (fail)
      go_loopg [13] L (fun gk v13 wr => ∃ (i : Nat), i ≤ L ∧ gk = L - i ∧ v13 = .int .i64 i ∧ Hid (∀ j, j < m + i → Ap.diff D (Ap.at' (Ap.Q D m) j).1 = false) ∧ St w wr (Ap.bR w.heap.size gs a0 a1 b0 b1 bs (.slice an L cn) (.slice at_ L ct) (Ap.pairs (Ap.Q D m) m) (Ap.texts (Ap.Q D m) m)))
      case atStart => exact ⟨0, by omega, by omega, rfl, HEQ, HST.out⟩
      case round =>
        clear HST
        obtain ⟨i, hi, hgk, rfl, HEQ2, hst⟩ := hrel
        have HGKI := Lib.hid hgk
        clear hgk
        by_cases hlti : i < L
        · have hstD := hst.drew
          obtain ⟨gn2, rfl, r0, r1⟩ := Ap.twAt (hstD.nth 1 rfl).own (by rw [HPL.out]; omega) (show i < _ by rw [HPL.out]; exact hlti)
          have hpa := Ap.pairs_at (S := Ap.Q D m) (m := m) (i := i) (by rw [HLS.out]; omega)
          rw [hpa] at r0 r1
          have hrg := HOK.out.rg (m + i) (by rw [HLS.out]; omega)
          obtain ⟨x, hx⟩ : ∃ x, (Ap.at' (Ap.Q D m) (m + i)).1 = x := ⟨_, rfl⟩
          rw [hx] at r0 r1 hrg
          have HX := Lib.hid hx
          clear hx hpa
          obtain ⟨xa, xb⟩ := x
          simp only at r0 r1 hrg
          obtain ⟨q1, q2, q3, q4⟩ := hrg
          have hdf : (Aut.tagOf D.t1 xa != Aut.tagOf D.t2 xb) = Ap.diff D (xa, xb) := by unfold Ap.diff; rw [Bool.eq_iff_iff]; simp
          obtain ⟨B, hB⟩ : ∃ B, Ap.diff D (xa, xb) = B := ⟨_, rfl⟩
          rw [hB] at hdf
          have HB := Lib.hid hB
          have HST := Lib.hid hstD
          clear hB hst hstD
          obtain ⟨z0, z1⟩ := HST.out.at2 4 rfl
          obtain ⟨y0, y1⟩ := HST.out.at2 3 rfl
          have HN := Lib.hid (St.init wr.drew)
          go_wp2_with (fail)
          refine wp_region_held_drew (S := (fun w' => w'.cell? ⟨w.heap.size, 0, none⟩ = some a0 ∧ w'.cell? ⟨w.heap.size, 1, none⟩ = some a1 ∧ w'.cell? ⟨w.heap.size + 1, 0, none⟩ = some b0 ∧ w'.cell? ⟨w.heap.size + 1, 1, none⟩ = some b1 ∧ w'.cell? ⟨gn2, i * 2, none⟩ = some (.int .i64 xa) ∧ w'.cell? ⟨gn2, i * 2 + 1, none⟩ = some (.int .i64 xb))) (by kernel_rfl) ?_ (fun hHeld => ?_)
          · (try dsimp only); (exact ⟨bkeep HN.out.bel z0, bkeep HN.out.bel z1, bkeep HN.out.bel y0, bkeep HN.out.bel y1, bkeep HN.out.bel r0, bkeep HN.out.bel r1⟩)

          refine wpAnyH_take (i := 0) (v := ?_) rfl (by kernel_rfl) (by kernel_rfl) (by kernel_rfl) (fun _ _ _ h => h) (Or.inl ⟨by rfl, ?_⟩) (by assumption) ?_
          rotate_left; focus (intro w hSw; (try dsimp only at hSw); go_simp; try (with_reducible rfl); done)
          try simp only [List.getElem_toArray, List.getElem_cons_zero, List.getElem_cons_succ, Act.put, List.setIfInBounds_toArray, List.set_cons_zero, List.set_cons_succ]
          refine wpAnyH_take (i := 1) (v := ?_) rfl (by kernel_rfl) (by kernel_rfl) (by kernel_rfl) (fun _ _ _ h => h) (Or.inl ⟨by rfl, ?_⟩) (by assumption) ?_
          rotate_left; focus (intro w hSw; (try dsimp only at hSw); go_simp; try (with_reducible rfl); done)
          try simp only [List.getElem_toArray, List.getElem_cons_zero, List.getElem_cons_succ, Act.put, List.setIfInBounds_toArray, List.set_cons_zero, List.set_cons_succ]
          refine wpAnyH_take (i := 2) (v := ?_) rfl (by kernel_rfl) (by kernel_rfl) (by kernel_rfl) (fun _ _ _ h => h) (Or.inl ⟨by rfl, ?_⟩) (by assumption) ?_
          rotate_left; focus (intro w hSw; (try dsimp only at hSw); go_simp; try (with_reducible rfl); done)
          try simp only [List.getElem_toArray, List.getElem_cons_zero, List.getElem_cons_succ, Act.put, List.setIfInBounds_toArray, List.set_cons_zero, List.set_cons_succ]
          refine wpAnyH_take (i := 3) (v := ?_) rfl (by kernel_rfl) (by kernel_rfl) (by kernel_rfl) (fun _ _ _ h => h) (Or.inl ⟨by rfl, ?_⟩) (by assumption) ?_
          rotate_left; focus (intro w hSw; (try dsimp only at hSw); go_simp; try (with_reducible rfl); done)
          try simp only [List.getElem_toArray, List.getElem_cons_zero, List.getElem_cons_succ, Act.put, List.setIfInBounds_toArray, List.set_cons_zero, List.set_cons_succ]
          refine wpAnyH_take (i := 4) (v := ?_) rfl (by kernel_rfl) (by kernel_rfl) (by kernel_rfl) (fun _ _ _ h => h) (Or.inl ⟨by rfl, ?_⟩) (by assumption) ?_
          rotate_left; focus (intro w hSw; (try dsimp only at hSw); go_simp; try (with_reducible rfl); done)
          try simp only [List.getElem_toArray, List.getElem_cons_zero, List.getElem_cons_succ, Act.put, List.setIfInBounds_toArray, List.set_cons_zero, List.set_cons_succ]
          refine wpAnyH_take (i := 5) (v := ?_) rfl (by kernel_rfl) (by kernel_rfl) (by kernel_rfl) (fun _ _ _ h => h) (Or.inl ⟨by rfl, ?_⟩) (by assumption) ?_
          rotate_left; focus (intro w hSw; (try dsimp only at hSw); go_simp; try (with_reducible rfl); done)
          try simp only [List.getElem_toArray, List.getElem_cons_zero, List.getElem_cons_succ, Act.put, List.setIfInBounds_toArray, List.set_cons_zero, List.set_cons_succ]
          refine wpAnyH_take (i := 7) (v := ?_) rfl (by kernel_rfl) (by kernel_rfl) (by kernel_rfl) (fun _ _ _ h => h) (Or.inl ⟨by rfl, ?_⟩) (by assumption) ?_
          rotate_left; focus (intro w hSw; (try dsimp only at hSw); go_simp; try (with_reducible rfl); done)
          try simp only [List.getElem_toArray, List.getElem_cons_zero, List.getElem_cons_succ, Act.put, List.setIfInBounds_toArray, List.set_cons_zero, List.set_cons_succ]
          refine wpAnyH_take (i := 8) (v := ?_) rfl (by kernel_rfl) (by kernel_rfl) (by kernel_rfl) (fun _ _ _ h => h) (Or.inl ⟨by rfl, ?_⟩) (by assumption) ?_
          rotate_left; focus (intro w hSw; (try dsimp only at hSw); go_simp; try (with_reducible rfl); done)
          try simp only [List.getElem_toArray, List.getElem_cons_zero, List.getElem_cons_succ, Act.put, List.setIfInBounds_toArray, List.set_cons_zero, List.set_cons_succ]
          refine wpAnyH_take (i := 9) (v := ?_) rfl (by kernel_rfl) (by kernel_rfl) (by kernel_rfl) (fun _ _ _ h => h) (Or.inl ⟨by rfl, ?_⟩) (by assumption) ?_
          rotate_left; focus (intro w hSw; (try dsimp only at hSw); go_simp; try (with_reducible rfl); done)
          try simp only [List.getElem_toArray, List.getElem_cons_zero, List.getElem_cons_succ, Act.put, List.setIfInBounds_toArray, List.set_cons_zero, List.set_cons_succ]
          refine wpAnyH_take (i := 10) (v := ?_) rfl (by kernel_rfl) (by kernel_rfl) (by kernel_rfl) (fun _ _ _ h => h) (Or.inl ⟨by rfl, ?_⟩) (by assumption) ?_
          rotate_left; focus (intro w hSw; (try dsimp only at hSw); go_simp; try (with_reducible rfl); done)
          try simp only [List.getElem_toArray, List.getElem_cons_zero, List.getElem_cons_succ, Act.put, List.setIfInBounds_toArray, List.set_cons_zero, List.set_cons_succ]
          refine wpAnyH_take (i := 11) (v := ?_) rfl (by kernel_rfl) (by kernel_rfl) (by kernel_rfl) (fun _ _ _ h => h) (Or.inl ⟨by rfl, ?_⟩) (by assumption) ?_
          rotate_left; focus (intro w hSw; (try dsimp only at hSw); go_simp; try (with_reducible rfl); done)
          try simp only [List.getElem_toArray, List.getElem_cons_zero, List.getElem_cons_succ, Act.put, List.setIfInBounds_toArray, List.set_cons_zero, List.set_cons_succ]
          refine wpAnyH_take (i := 12) (v := ?_) rfl (by kernel_rfl) (by kernel_rfl) (by kernel_rfl) (fun _ _ _ h => h) (Or.inl ⟨by rfl, ?_⟩) (by assumption) ?_
          rotate_left; focus (intro w hSw; (try dsimp only at hSw); go_simp; try (with_reducible rfl); done)
          try simp only [List.getElem_toArray, List.getElem_cons_zero, List.getElem_cons_succ, Act.put, List.setIfInBounds_toArray, List.set_cons_zero, List.set_cons_succ]
          refine wpAnyH_ready (rs := [6]) (by kernel_rfl) (by simp) ?_
          refine AllReadyH.cons rfl (fun K hK => ?_) AllReadyH.nil
          go_simp
          (go_at_call 39; (first | (with_reducible refine (HTA.out _ xa (HST.out.bel.trans (HN.out.bel.mono HST.out.bel.size)) q2).mono ?_) | (with_reducible refine (HTB.out _ xb (HST.out.bel.trans (HN.out.bel.mono HST.out.bel.size)) q4).mono ?_)); rintro e w8 ⟨rfl, hb8⟩; have HN := Lib.hid (HN.out.call hb8); clear hb8)
          refine hK.out _ _ ?_ (fun hHeld => ?_)
          · (try dsimp only); (exact ⟨bkeep HN.out.bel z0, bkeep HN.out.bel z1, bkeep HN.out.bel y0, bkeep HN.out.bel y1, bkeep HN.out.bel r0, bkeep HN.out.bel r1⟩)
          clear hK K
          try simp only [List.getElem_toArray, List.getElem_cons_zero, List.getElem_cons_succ, Act.put, List.setIfInBounds_toArray, List.set_cons_zero, List.set_cons_succ]
          refine wpAnyH_ready (rs := [13]) (by kernel_rfl) (by simp) ?_
          refine AllReadyH.cons rfl (fun K hK => ?_) AllReadyH.nil
          go_simp
          (go_at_call 39; (first | (with_reducible refine (HTA.out _ xa (HST.out.bel.trans (HN.out.bel.mono HST.out.bel.size)) q2).mono ?_) | (with_reducible refine (HTB.out _ xb (HST.out.bel.trans (HN.out.bel.mono HST.out.bel.size)) q4).mono ?_)); rintro e w8 ⟨rfl, hb8⟩; have HN := Lib.hid (HN.out.call hb8); clear hb8)
          refine hK.out _ _ ?_ (fun hHeld => ?_)
          · (try dsimp only); (exact ⟨bkeep HN.out.bel z0, bkeep HN.out.bel z1, bkeep HN.out.bel y0, bkeep HN.out.bel y1, bkeep HN.out.bel r0, bkeep HN.out.bel r1⟩)
          clear hK K
          try simp only [List.getElem_toArray, List.getElem_cons_zero, List.getElem_cons_succ, Act.put, List.setIfInBounds_toArray, List.set_cons_zero, List.set_cons_succ]
          refine wpAnyH_take (i := 14) (v := ?_) rfl (by kernel_rfl) (by kernel_rfl) (by kernel_rfl) (fun _ _ _ h => h) (Or.inl ⟨by rfl, ?_⟩) (by assumption) ?_
          rotate_left; focus (intro w hSw; (try dsimp only at hSw); go_simp; try (with_reducible rfl); done)
          try simp only [List.getElem_toArray, List.getElem_cons_zero, List.getElem_cons_succ, Act.put, List.setIfInBounds_toArray, List.set_cons_zero, List.set_cons_succ]
          refine wpAnyH_done (by kernel_rfl) ?_ _
          have HST := Lib.hid (HST.out.call HN.out.bel)
          clear z0 z1 y0 y1 r0 r1 HN
          cases B
          · go_wp2
            go_roundg (L - (i + 1))
            case measure => have := HGKI.out; omega
            case rel =>
              refine ⟨i + 1, by omega, rfl, by go_num, Lib.hid (fun j hj => ?_), HST.out⟩
              by_cases e : j = m + i
              · subst e; rw [HX.out]; exact HB.out
              · exact HEQ2.out j (by omega)
          · obtain ⟨gt2, rfl⟩ := (HST.out.nth 2 rfl).own.addr (by rw [List.length_map, HTL.out]; exact hlt)
            have t0 := ((show St w _ [aOwn 9 1 (.slice (some ⟨gt2, 0, none⟩) L ct) ((Ap.texts (Ap.Q D m) m).map Ap.sV)] from HST.out.nth 2 rfl).cellOwn (f := Ap.sV) (fun _ => rfl) i (by rw [HTL.out]; exact hlti) ByteArray.empty).1
            have hta := Ap.texts_at (S := Ap.Q D m) (m := m) (i := i) (by rw [HLS.out]; omega)
            rw [hta] at t0
            replace t0 : World.cell? _ ⟨gt2, i, none⟩ = some (.string (strOfNums (Ap.txt (Ap.Q D m) (m + i)))) := t0
            have HSY := Lib.hid (show Ap.Says D (Ap.txt (Ap.Q D m) (m + i)) true from by
              have hmi : m + i < (Ap.Q D m).length := by rw [HLS.out]; omega
              have hle := Ap.Q_len_le D m i
              obtain ⟨T, hT⟩ := Ap.Q_prefix D m i
              refine HSAY.out (m + i) _ _ (fun j hj => ?_) (.inl ⟨by omega, ?_, ?_, rfl⟩)
              · rw [(Ap.Q_at_le (Nat.le_add_right m i) (by omega)).1]; exact HEQ2.out j hj
              · rw [(Ap.Q_at_le (Nat.le_add_right m i) hmi).1, HX.out]; exact HB.out
              · rw [hT, Ap.txt_append HOK.out hmi])
            generalize Ap.txt (Ap.Q D m) (m + i) = l at *
            clear hta
            go_wp2
            go_ret2
            exact ⟨l, true, rfl, HSY, HST.out.bel⟩
        · obtain rfl : L = i := by omega
          have HST := Lib.hid hst
          clear hst
          obtain ⟨M0, hM0⟩ : ∃ M0, (Ap.Q D m).length = M0 := ⟨_, rfl⟩
          have HM0 := Lib.hid hM0
          have hM0L : M0 = m + L := by rw [← hM0, HLS.out]
          clear hM0
          go_wp2_with (fail)
          go_loopg [11, 12, 14] L (fun gk v11 v12 v14 wr => ∃ (i : Nat) (v1 v2 : Value) (bs : List Bool), i ≤ L ∧ gk = L - i ∧ v14 = .int .i64 i ∧ v1 = v11 ∧ v2 = v12 ∧ Hid (Ap.Tick bs (Ap.Q D (m + i))) ∧ St w wr (Ap.b4 w.heap.size gs a0 a1 b0 b1 bs v1 v2 (.slice an L cn) (.slice at_ L ct) (Ap.pairs (Ap.Q D (m + i)) M0) (Ap.texts (Ap.Q D (m + i)) M0) (Ap.pairs (Ap.Q D m) m) (Ap.texts (Ap.Q D m) m)))
          case atStart =>
            refine ⟨0, _, _, bs, by omega, by omega, rfl, rfl, rfl, HTK, ?_⟩
            rw [Nat.add_zero, ← HM0.out, Ap.pairs_end, Ap.texts_end]
            exact ((HST.out.nilOwn 94 2).nilOwn 9 1).pick [2, 1, 0, 3, 4, 5, 6] 7 rfl rfl
          case round =>
            clear HST HTK
            obtain ⟨i, v1, v2, bs, hi, hgk, rfl, rfl, rfl, HTK, hst⟩ := hrel
            have HGKI := Lib.hid hgk
            clear hgk
            by_cases hlti : i < L
            · obtain ⟨gn2, rfl⟩ := (hst.nth 3 rfl).own.addr (by rw [List.length_map, HPL.out]; omega)
              obtain ⟨gt2, rfl⟩ := (hst.nth 4 rfl).own.addr (by rw [List.length_map, HTL.out]; omega)
              have hle := Ap.Q_len_le D m i
              have hlt2 : m + i < (Ap.Q D (m + i)).length := by have := HM0.out; omega
              have HOKI := Lib.hid (Ap.ok_Q HG.out (m + i))
              have HQS := Lib.hid (Ap.Q_succ (D := D) (k := m + i) hlt2)
              have hmi : m + i < (Ap.Q D m).length := by have := HM0.out; omega
              have hrg := HOKI.out.rg (m + i) hlt2
              obtain ⟨x, hx⟩ : ∃ x, (Ap.at' (Ap.Q D (m + i)) (m + i)).1 = x := ⟨_, rfl⟩
              have HXQ := Lib.hid (show (Ap.pairs (Ap.Q D m) m).getD i (0, 0) = x by rw [Ap.pairs_at hmi, ← hx, (Ap.Q_at_le (Nat.le_add_right m i) hmi).1])
              rw [hx] at hrg
              have HX := Lib.hid hx
              clear hx
              obtain ⟨xa, xb⟩ := x
              simp only at hrg
              obtain ⟨q1, q2, q3, q4⟩ := hrg
              obtain ⟨tx, htx⟩ : ∃ tx, (Ap.texts (Ap.Q D m) m).getD i ByteArray.empty = tx := ⟨_, rfl⟩
              have HTX := Lib.hid (show tx = strOfNums (Ap.txt (Ap.Q D (m + i)) (m + i)) by
                obtain ⟨T, hT⟩ := Ap.Q_prefix D m i
                rw [← htx, Ap.texts_at hmi, hT, Ap.txt_append HOK.out hmi])
              have HTX0 := Lib.hid htx
              have HLT2 := Lib.hid hlt2
              have HM0L := Lib.hid (show M0 ≤ (Ap.Q D (m + i)).length by have := HM0.out; omega)
              have hil : (i : Int) < L := by omega
              have HST := Lib.hid hst
              clear hst htx hle hlt2 hmi
              go_wp2_with (fail)
              go_loopg [11, 12, 15] 256 (fun gk v11 v12 v15 wr => ∃ (cc : Nat) (v1 v2 : Value) (bs : List Bool), cc ≤ 256 ∧ gk = 256 - cc ∧ v15 = .int .i64 cc ∧ v1 = v11 ∧ v2 = v12 ∧ Hid (Ap.Tick bs (Ap.growK D (xa, xb) (m + i) (Ap.Q D (m + i)) cc)) ∧ St w wr (Ap.b4 w.heap.size gs a0 a1 b0 b1 bs v1 v2 (.slice (some ⟨gn2, 0, none⟩) L cn) (.slice (some ⟨gt2, 0, none⟩) L ct) (Ap.pairs (Ap.growK D (xa, xb) (m + i) (Ap.Q D (m + i)) cc) M0) (Ap.texts (Ap.growK D (xa, xb) (m + i) (Ap.Q D (m + i)) cc) M0) (Ap.pairs (Ap.Q D m) m) (Ap.texts (Ap.Q D m) m)))
              case atStart => exact ⟨0, _, _, bs, by omega, by omega, rfl, rfl, rfl, HTK, HST.out⟩
              case round =>
                clear HST HTK
                obtain ⟨cc, v1, v2, bs, hcc, hgk, rfl, rfl, rfl, HTK, hst⟩ := hrel
                have HGKC := Lib.hid hgk
                clear hgk
                by_cases hltc : cc < 256
                · have hci : (cc : Int) < 256 := by omega
                  have hokc := Ap.ok_growK HG.out HOKI.out HLT2.out (k := cc) (by omega)
                  rw [HX.out] at hokc
                  have hlenc := Ap.ok_small HG.out hokc
                  have hokc2 := Ap.ok_growK HG.out HOKI.out HLT2.out (k := cc + 1) (by omega)
                  rw [HX.out] at hokc2
                  have hgl := Ap.growK_len D (xa, xb) (m + i) (Ap.Q D (m + i)) cc
                  have HTT := Lib.hid (show Ap.txt (Ap.growK D (xa, xb) (m + i) (Ap.Q D (m + i)) cc) (m + i) = Ap.txt (Ap.Q D (m + i)) (m + i) by
                    obtain ⟨T, hT⟩ := Ap.growK_prefix D (xa, xb) (m + i) (Ap.Q D (m + i)) cc
                    rw [hT, Ap.txt_append HOKI.out HLT2.out])
                  have HGS := Lib.hid (Ap.growK_succ D (xa, xb) (m + i) (Ap.Q D (m + i)) cc)
                  have HYA := Lib.hid (fun W hw => HOA.out W xa cc hw q2 hltc)
                  have HYB := Lib.hid (fun W hw => HOB.out W xb cc hw q4 hltc)
                  have ya := Ap.goTo_rg HG.out.g1 q1 q2 hltc
                  have yb := Ap.goTo_rg HG.out.g2 q3 q4 hltc
                  obtain ⟨y1, hy1⟩ : ∃ y, Ap.goTo D.r1 xa cc = y := ⟨_, rfl⟩
                  obtain ⟨y2, hy2⟩ : ∃ y, Ap.goTo D.r2 xb cc = y := ⟨_, rfl⟩
                  have HNX := Lib.hid (show Ap.nxt D (xa, xb) cc = (y1, y2) by unfold Ap.nxt; rw [hy1, hy2])
                  rw [hy1] at HYA ya
                  rw [hy2] at HYB yb
                  clear hy1 hy2
                  obtain ⟨ya1, ya2⟩ := ya
                  obtain ⟨yb1, yb2⟩ := yb
                  have HIN := Lib.hid (show Ap.In (y1, y2) from ⟨ya1, by simp only; omega, yb1, by simp only; omega⟩)
                  have hadd1 : Hid (Ap.add1 D (xa, xb) (m + i) (Ap.growK D (xa, xb) (m + i) (Ap.Q D (m + i)) cc) cc = if Ap.has (Ap.growK D (xa, xb) (m + i) (Ap.Q D (m + i)) cc) (y1, y2) then (Ap.growK D (xa, xb) (m + i) (Ap.Q D (m + i)) cc) else (Ap.growK D (xa, xb) (m + i) (Ap.Q D (m + i)) cc) ++ [((y1, y2), ((m + i : Nat) : Int), (cc : Int))]) := Lib.hid (by unfold Ap.add1; rw [HNX.out])
                  rw [hadd1.out] at HGS
                  have htk := HTK.out.at_ (y1, y2) HIN.out
                  have hsp := Ap.spot_lt HIN.out
                  obtain ⟨S', hS'⟩ : ∃ S', (Ap.growK D (xa, xb) (m + i) (Ap.Q D (m + i)) cc) = S' := ⟨_, rfl⟩
                  rw [HGS.out] at hokc2
                  rw [hS'] at HGS hst hlenc HTK HTT htk hokc hokc2 hgl
                  have HSS := Lib.hid hS'
                  have HOKC := Lib.hid hokc
                  have HOKC2 := Lib.hid hokc2
                  have HGL := Lib.hid hgl
                  clear hS' hadd1 hokc hokc2 hgl
                  obtain ⟨sp, hspe⟩ : ∃ sp, Ap.spot (y1, y2) = sp := ⟨_, rfl⟩
                  obtain ⟨B, hB⟩ : ∃ B, Ap.has S' (y1, y2) = B := ⟨_, rfl⟩
                  have HRS := Lib.hid (fun W => rSpot_any (y1, y2) HIN.out W)
                  rw [hspe] at htk hsp HRS
                  rw [hB] at htk HGS HOKC2
                  have HTI := Lib.hid htk
                  have HSPE := Lib.hid hspe
                  have hspi : (sp : Int) < 40602 := by omega
                  clear htk hspe hB
                  have HST := Lib.hid hst.drew
                  clear hst
                  obtain ⟨z0, z1⟩ := HST.out.at2 6 rfl
                  obtain ⟨u0, u1⟩ := HST.out.at2 5 rfl
                  obtain ⟨_, hgne, p0, p1⟩ := Ap.twAt (HST.out.nth 3 rfl).own (by rw [HPL.out]; omega) (show i < _ by rw [HPL.out]; exact hlti)
                  simp only [Option.some.injEq, Addr.mk.injEq, and_true] at hgne
                  subst hgne
                  rw [HXQ.out] at p0 p1
                  simp only at p0 p1
                  have HN := Lib.hid (St.init wr.drew)
                  go_wp2_with (fail)
                  refine Ap.shareG (P := ?PSh) (A := fun gq W => St w W (aCel gq 94 #[.int .i64 y1, .int .i64 y2] :: Ap.b4 w.heap.size gs a0 a1 b0 b1 bs v1 v2 (.slice (some ⟨gn2, 0, none⟩) L cn) (.slice (some ⟨gt2, 0, none⟩) L ct) (Ap.pairs S' M0) (Ap.texts S' M0) (Ap.pairs (Ap.Q D m) m) (Ap.texts (Ap.Q D m) m))) (fun REST => ?h1) ?h2
                  case h1 =>
                    refine wp_region_held_drew (S := (fun w' => w'.cell? ⟨w.heap.size, 0, none⟩ = some a0 ∧ w'.cell? ⟨w.heap.size, 1, none⟩ = some a1 ∧ w'.cell? ⟨w.heap.size + 1, 0, none⟩ = some b0 ∧ w'.cell? ⟨w.heap.size + 1, 1, none⟩ = some b1 ∧ w'.cell? ⟨gn2, i * 2, none⟩ = some (.int .i64 xa) ∧ w'.cell? ⟨gn2, i * 2 + 1, none⟩ = some (.int .i64 xb))) (by kernel_rfl) ?_ (fun hHeld => ?_)
                    · (try dsimp only); (exact ⟨bkeep HN.out.bel z0, bkeep HN.out.bel z1, bkeep HN.out.bel u0, bkeep HN.out.bel u1, bkeep HN.out.bel p0, bkeep HN.out.bel p1⟩)

                    refine wpAnyH_take (i := 0) (v := ?_) rfl (by kernel_rfl) (by kernel_rfl) (by kernel_rfl) (fun _ _ _ h => h) (Or.inl ⟨by rfl, ?_⟩) (by assumption) ?_
                    rotate_left; focus (intro w hSw; (try dsimp only at hSw); go_simp; try (with_reducible rfl); done)
                    try simp only [List.getElem_toArray, List.getElem_cons_zero, List.getElem_cons_succ, Act.put, List.setIfInBounds_toArray, List.set_cons_zero, List.set_cons_succ]
                    refine wpAnyH_take (i := 1) (v := ?_) rfl (by kernel_rfl) (by kernel_rfl) (by kernel_rfl) (fun _ _ _ h => h) (Or.inl ⟨by rfl, ?_⟩) (by assumption) ?_
                    rotate_left; focus (intro w hSw; (try dsimp only at hSw); go_simp; try (with_reducible rfl); done)
                    try simp only [List.getElem_toArray, List.getElem_cons_zero, List.getElem_cons_succ, Act.put, List.setIfInBounds_toArray, List.set_cons_zero, List.set_cons_succ]
                    refine wpAnyH_take (i := 2) (v := ?_) rfl (by kernel_rfl) (by kernel_rfl) (by kernel_rfl) (fun _ _ _ h => h) (Or.inl ⟨by rfl, ?_⟩) (by assumption) ?_
                    rotate_left; focus (intro w hSw; (try dsimp only at hSw); go_simp; try (with_reducible rfl); done)
                    try simp only [List.getElem_toArray, List.getElem_cons_zero, List.getElem_cons_succ, Act.put, List.setIfInBounds_toArray, List.set_cons_zero, List.set_cons_succ]
                    refine wpAnyH_take (i := 3) (v := ?_) rfl (by kernel_rfl) (by kernel_rfl) (by kernel_rfl) (fun _ _ _ h => h) (Or.inl ⟨by rfl, ?_⟩) (by assumption) ?_
                    rotate_left; focus (intro w hSw; (try dsimp only at hSw); go_simp; try (with_reducible rfl); done)
                    try simp only [List.getElem_toArray, List.getElem_cons_zero, List.getElem_cons_succ, Act.put, List.setIfInBounds_toArray, List.set_cons_zero, List.set_cons_succ]
                    refine wpAnyH_take (i := 4) (v := ?_) rfl (by kernel_rfl) (by kernel_rfl) (by kernel_rfl) (fun _ _ _ h => h) (Or.inl ⟨by rfl, ?_⟩) (by assumption) ?_
                    rotate_left; focus (intro w hSw; (try dsimp only at hSw); go_simp; try (with_reducible rfl); done)
                    try simp only [List.getElem_toArray, List.getElem_cons_zero, List.getElem_cons_succ, Act.put, List.setIfInBounds_toArray, List.set_cons_zero, List.set_cons_succ]
                    refine wpAnyH_take (i := 5) (v := ?_) rfl (by kernel_rfl) (by kernel_rfl) (by kernel_rfl) (fun _ _ _ h => h) (Or.inl ⟨by rfl, ?_⟩) (by assumption) ?_
                    rotate_left; focus (intro w hSw; (try dsimp only at hSw); go_simp; try (with_reducible rfl); done)
                    try simp only [List.getElem_toArray, List.getElem_cons_zero, List.getElem_cons_succ, Act.put, List.setIfInBounds_toArray, List.set_cons_zero, List.set_cons_succ]
                    refine wpAnyH_take (i := 6) (v := ?_) rfl (by kernel_rfl) (by kernel_rfl) (by kernel_rfl) (fun _ _ _ h => h) (Or.inl ⟨by rfl, ?_⟩) (by assumption) ?_
                    rotate_left; focus (intro w hSw; (try dsimp only at hSw); go_simp; try (with_reducible rfl); done)
                    try simp only [List.getElem_toArray, List.getElem_cons_zero, List.getElem_cons_succ, Act.put, List.setIfInBounds_toArray, List.set_cons_zero, List.set_cons_succ]
                    refine wpAnyH_take (i := 7) (v := ?_) rfl (by kernel_rfl) (by kernel_rfl) (by kernel_rfl) (fun _ _ _ h => h) (Or.inl ⟨by rfl, ?_⟩) (by assumption) ?_
                    rotate_left; focus (intro w hSw; (try dsimp only at hSw); go_simp; try (with_reducible rfl); done)
                    try simp only [List.getElem_toArray, List.getElem_cons_zero, List.getElem_cons_succ, Act.put, List.setIfInBounds_toArray, List.set_cons_zero, List.set_cons_succ]
                    refine wpAnyH_take (i := 9) (v := ?_) rfl (by kernel_rfl) (by kernel_rfl) (by kernel_rfl) (fun _ _ _ h => h) (Or.inl ⟨by rfl, ?_⟩) (by assumption) ?_
                    rotate_left; focus (intro w hSw; (try dsimp only at hSw); go_simp; try (with_reducible rfl); done)
                    try simp only [List.getElem_toArray, List.getElem_cons_zero, List.getElem_cons_succ, Act.put, List.setIfInBounds_toArray, List.set_cons_zero, List.set_cons_succ]
                    refine wpAnyH_take (i := 10) (v := ?_) rfl (by kernel_rfl) (by kernel_rfl) (by kernel_rfl) (fun _ _ _ h => h) (Or.inl ⟨by rfl, ?_⟩) (by assumption) ?_
                    rotate_left; focus (intro w hSw; (try dsimp only at hSw); go_simp; try (with_reducible rfl); done)
                    try simp only [List.getElem_toArray, List.getElem_cons_zero, List.getElem_cons_succ, Act.put, List.setIfInBounds_toArray, List.set_cons_zero, List.set_cons_succ]
                    refine wpAnyH_take (i := 11) (v := ?_) rfl (by kernel_rfl) (by kernel_rfl) (by kernel_rfl) (fun _ _ _ h => h) (Or.inl ⟨by rfl, ?_⟩) (by assumption) ?_
                    rotate_left; focus (intro w hSw; (try dsimp only at hSw); go_simp; try (with_reducible rfl); done)
                    try simp only [List.getElem_toArray, List.getElem_cons_zero, List.getElem_cons_succ, Act.put, List.setIfInBounds_toArray, List.set_cons_zero, List.set_cons_succ]
                    refine wpAnyH_take (i := 12) (v := ?_) rfl (by kernel_rfl) (by kernel_rfl) (by kernel_rfl) (fun _ _ _ h => h) (Or.inl ⟨by rfl, ?_⟩) (by assumption) ?_
                    rotate_left; focus (intro w hSw; (try dsimp only at hSw); go_simp; try (with_reducible rfl); done)
                    try simp only [List.getElem_toArray, List.getElem_cons_zero, List.getElem_cons_succ, Act.put, List.setIfInBounds_toArray, List.set_cons_zero, List.set_cons_succ]
                    refine wpAnyH_take (i := 13) (v := ?_) rfl (by kernel_rfl) (by kernel_rfl) (by kernel_rfl) (fun _ _ _ h => h) (Or.inl ⟨by rfl, ?_⟩) (by assumption) ?_
                    rotate_left; focus (intro w hSw; (try dsimp only at hSw); go_simp; try (with_reducible rfl); done)
                    try simp only [List.getElem_toArray, List.getElem_cons_zero, List.getElem_cons_succ, Act.put, List.setIfInBounds_toArray, List.set_cons_zero, List.set_cons_succ]
                    refine wpAnyH_take (i := 14) (v := ?_) rfl (by kernel_rfl) (by kernel_rfl) (by kernel_rfl) (fun _ _ _ h => h) (Or.inl ⟨by rfl, ?_⟩) (by assumption) ?_
                    rotate_left; focus (intro w hSw; (try dsimp only at hSw); go_simp; try (with_reducible rfl); done)
                    try simp only [List.getElem_toArray, List.getElem_cons_zero, List.getElem_cons_succ, Act.put, List.setIfInBounds_toArray, List.set_cons_zero, List.set_cons_succ]
                    refine wpAnyH_take (i := 15) (v := ?_) rfl (by kernel_rfl) (by kernel_rfl) (by kernel_rfl) (fun _ _ _ h => h) (Or.inl ⟨by rfl, ?_⟩) (by assumption) ?_
                    rotate_left; focus (intro w hSw; (try dsimp only at hSw); go_simp; try (with_reducible rfl); done)
                    try simp only [List.getElem_toArray, List.getElem_cons_zero, List.getElem_cons_succ, Act.put, List.setIfInBounds_toArray, List.set_cons_zero, List.set_cons_succ]
                    refine wpAnyH_take (i := 16) (v := ?_) rfl (by kernel_rfl) (by kernel_rfl) (by kernel_rfl) (fun _ _ _ h => h) (Or.inl ⟨by rfl, ?_⟩) (by assumption) ?_
                    rotate_left; focus (intro w hSw; (try dsimp only at hSw); go_simp; try (with_reducible rfl); done)
                    try simp only [List.getElem_toArray, List.getElem_cons_zero, List.getElem_cons_succ, Act.put, List.setIfInBounds_toArray, List.set_cons_zero, List.set_cons_succ]
                    refine wpAnyH_ready (rs := [8, 19]) (by kernel_rfl) (by simp) ?_
                    refine AllReadyH.cons rfl (fun K hK => ?_) (AllReadyH.cons rfl (fun K hK => ?_) (AllReadyH.nil))
                    · skip
                      go_simp
                      (first | (go_at_call 37; (first | (with_reducible refine (HYA.out _ (HST.out.bel.trans (HN.out.bel.mono HST.out.bel.size))).mono ?_) | (with_reducible refine (HYB.out _ (HST.out.bel.trans (HN.out.bel.mono HST.out.bel.size))).mono ?_)); rintro e w8 ⟨rfl, hb8⟩; have HN := Lib.hid (HN.out.call hb8); clear hb8) | (refine St.stepAlloc (T := 94) (cs := #[.int .i64 0, .int .i64 0]) rfl rfl (by intro u; kernel_rfl) HN.out ?_; intro gq w8 hst8; have HN := Lib.hid hst8; clear hst8) | (refine St.stepRow rfl 94 (.tmp 16) (.tmp 84) rfl gq #[.int .i64 y1, .int .i64 y2] rfl rfl HN.out (by kernel_rfl) rfl (by simp [Value.oneCell']) ?_; intro w8 hst8; have HN := Lib.hid hst8; clear hst8))
                      refine hK.out _ _ ?_ (fun hHeld => ?_)
                      · (try dsimp only); (exact ⟨bkeep HN.out.bel z0, bkeep HN.out.bel z1, bkeep HN.out.bel u0, bkeep HN.out.bel u1, bkeep HN.out.bel p0, bkeep HN.out.bel p1⟩)
                      clear hK K
                      try simp only [List.getElem_toArray, List.getElem_cons_zero, List.getElem_cons_succ, Act.put, List.setIfInBounds_toArray, List.set_cons_zero, List.set_cons_succ]
                      refine wpAnyH_ready (rs := [17, 19]) (by kernel_rfl) (by simp) ?_
                      refine AllReadyH.cons rfl (fun K hK => ?_) (AllReadyH.cons rfl (fun K hK => ?_) (AllReadyH.nil))
                      · skip
                        go_simp
                        (first | (go_at_call 37; (first | (with_reducible refine (HYA.out _ (HST.out.bel.trans (HN.out.bel.mono HST.out.bel.size))).mono ?_) | (with_reducible refine (HYB.out _ (HST.out.bel.trans (HN.out.bel.mono HST.out.bel.size))).mono ?_)); rintro e w8 ⟨rfl, hb8⟩; have HN := Lib.hid (HN.out.call hb8); clear hb8) | (refine St.stepAlloc (T := 94) (cs := #[.int .i64 0, .int .i64 0]) rfl rfl (by intro u; kernel_rfl) HN.out ?_; intro gq w8 hst8; have HN := Lib.hid hst8; clear hst8) | (refine St.stepRow rfl 94 (.tmp 16) (.tmp 84) rfl gq #[.int .i64 y1, .int .i64 y2] rfl rfl HN.out (by kernel_rfl) rfl (by simp [Value.oneCell']) ?_; intro w8 hst8; have HN := Lib.hid hst8; clear hst8))
                        refine hK.out _ _ ?_ (fun hHeld => ?_)
                        · (try dsimp only); (exact ⟨bkeep HN.out.bel z0, bkeep HN.out.bel z1, bkeep HN.out.bel u0, bkeep HN.out.bel u1, bkeep HN.out.bel p0, bkeep HN.out.bel p1⟩)
                        clear hK K
                        try simp only [List.getElem_toArray, List.getElem_cons_zero, List.getElem_cons_succ, Act.put, List.setIfInBounds_toArray, List.set_cons_zero, List.set_cons_succ]
                        refine wpAnyH_take (i := 18) (v := ?_) rfl (by kernel_rfl) (by kernel_rfl) (by kernel_rfl) (fun _ _ _ h => h) (Or.inl ⟨by rfl, ?_⟩) (by assumption) ?_
                        rotate_left; focus (intro w hSw; (try dsimp only at hSw); go_simp; try (with_reducible rfl); done)
                        try simp only [List.getElem_toArray, List.getElem_cons_zero, List.getElem_cons_succ, Act.put, List.setIfInBounds_toArray, List.set_cons_zero, List.set_cons_succ]
                        refine wpAnyH_ready (rs := [19]) (by kernel_rfl) (by simp) ?_
                        refine AllReadyH.cons rfl (fun K hK => ?_) (AllReadyH.nil)
                        (first | (go_at_call 37; (first | (with_reducible refine (HYA.out _ (HST.out.bel.trans (HN.out.bel.mono HST.out.bel.size))).mono ?_) | (with_reducible refine (HYB.out _ (HST.out.bel.trans (HN.out.bel.mono HST.out.bel.size))).mono ?_)); rintro e w8 ⟨rfl, hb8⟩; have HN := Lib.hid (HN.out.call hb8); clear hb8) | (refine St.stepAlloc (T := 94) (cs := #[.int .i64 0, .int .i64 0]) rfl rfl (by intro u; kernel_rfl) HN.out ?_; intro gq w8 hst8; have HN := Lib.hid hst8; clear hst8) | (refine St.stepRow rfl 94 (.tmp 16) (.tmp 84) rfl gq #[.int .i64 y1, .int .i64 y2] rfl rfl HN.out (by kernel_rfl) rfl (by simp [Value.oneCell']) ?_; intro w8 hst8; have HN := Lib.hid hst8; clear hst8))
                        refine hK.out _ _ ?_ (fun hHeld => ?_)
                        · (try dsimp only); (exact ⟨bkeep HN.out.bel z0, bkeep HN.out.bel z1, bkeep HN.out.bel u0, bkeep HN.out.bel u1, bkeep HN.out.bel p0, bkeep HN.out.bel p1⟩)
                        clear hK K
                        try simp only [List.getElem_toArray, List.getElem_cons_zero, List.getElem_cons_succ, Act.put, List.setIfInBounds_toArray, List.set_cons_zero, List.set_cons_succ]
                        refine wpAnyH_ready (rs := [20]) (by kernel_rfl) (by simp) ?_
                        refine AllReadyH.cons rfl (fun K hK => ?_) AllReadyH.nil
                        (first | (go_at_call 37; (first | (with_reducible refine (HYA.out _ (HST.out.bel.trans (HN.out.bel.mono HST.out.bel.size))).mono ?_) | (with_reducible refine (HYB.out _ (HST.out.bel.trans (HN.out.bel.mono HST.out.bel.size))).mono ?_)); rintro e w8 ⟨rfl, hb8⟩; have HN := Lib.hid (HN.out.call hb8); clear hb8) | (refine St.stepAlloc (T := 94) (cs := #[.int .i64 0, .int .i64 0]) rfl rfl (by intro u; kernel_rfl) HN.out ?_; intro gq w8 hst8; have HN := Lib.hid hst8; clear hst8) | (refine St.stepRow rfl 94 (.tmp 16) (.tmp 84) rfl gq #[.int .i64 y1, .int .i64 y2] rfl rfl HN.out (by kernel_rfl) rfl (by simp [Value.oneCell']) ?_; intro w8 hst8; have HN := Lib.hid hst8; clear hst8))
                        refine hK.out _ _ ?_ (fun hHeld => ?_)
                        · (try dsimp only); (exact ⟨bkeep HN.out.bel z0, bkeep HN.out.bel z1, bkeep HN.out.bel u0, bkeep HN.out.bel u1, bkeep HN.out.bel p0, bkeep HN.out.bel p1⟩)
                        clear hK K
                        try simp only [List.getElem_toArray, List.getElem_cons_zero, List.getElem_cons_succ, Act.put, List.setIfInBounds_toArray, List.set_cons_zero, List.set_cons_succ]
                        refine wpAnyH_done (by kernel_rfl) ?_ _
                        exact REST _ _ (HST.out.join HN.out)
                      · skip
                        (first | (go_at_call 37; (first | (with_reducible refine (HYA.out _ (HST.out.bel.trans (HN.out.bel.mono HST.out.bel.size))).mono ?_) | (with_reducible refine (HYB.out _ (HST.out.bel.trans (HN.out.bel.mono HST.out.bel.size))).mono ?_)); rintro e w8 ⟨rfl, hb8⟩; have HN := Lib.hid (HN.out.call hb8); clear hb8) | (refine St.stepAlloc (T := 94) (cs := #[.int .i64 0, .int .i64 0]) rfl rfl (by intro u; kernel_rfl) HN.out ?_; intro gq w8 hst8; have HN := Lib.hid hst8; clear hst8) | (refine St.stepRow rfl 94 (.tmp 16) (.tmp 84) rfl gq #[.int .i64 y1, .int .i64 y2] rfl rfl HN.out (by kernel_rfl) rfl (by simp [Value.oneCell']) ?_; intro w8 hst8; have HN := Lib.hid hst8; clear hst8))
                        refine hK.out _ _ ?_ (fun hHeld => ?_)
                        · (try dsimp only); (exact ⟨bkeep HN.out.bel z0, bkeep HN.out.bel z1, bkeep HN.out.bel u0, bkeep HN.out.bel u1, bkeep HN.out.bel p0, bkeep HN.out.bel p1⟩)
                        clear hK K
                        try simp only [List.getElem_toArray, List.getElem_cons_zero, List.getElem_cons_succ, Act.put, List.setIfInBounds_toArray, List.set_cons_zero, List.set_cons_succ]
                        refine wpAnyH_ready (rs := [17]) (by kernel_rfl) (by simp) ?_
                        refine AllReadyH.cons rfl (fun K hK => ?_) (AllReadyH.nil)
                        go_simp
                        (first | (go_at_call 37; (first | (with_reducible refine (HYA.out _ (HST.out.bel.trans (HN.out.bel.mono HST.out.bel.size))).mono ?_) | (with_reducible refine (HYB.out _ (HST.out.bel.trans (HN.out.bel.mono HST.out.bel.size))).mono ?_)); rintro e w8 ⟨rfl, hb8⟩; have HN := Lib.hid (HN.out.call hb8); clear hb8) | (refine St.stepAlloc (T := 94) (cs := #[.int .i64 0, .int .i64 0]) rfl rfl (by intro u; kernel_rfl) HN.out ?_; intro gq w8 hst8; have HN := Lib.hid hst8; clear hst8) | (refine St.stepRow rfl 94 (.tmp 16) (.tmp 84) rfl gq #[.int .i64 y1, .int .i64 y2] rfl rfl HN.out (by kernel_rfl) rfl (by simp [Value.oneCell']) ?_; intro w8 hst8; have HN := Lib.hid hst8; clear hst8))
                        refine hK.out _ _ ?_ (fun hHeld => ?_)
                        · (try dsimp only); (exact ⟨bkeep HN.out.bel z0, bkeep HN.out.bel z1, bkeep HN.out.bel u0, bkeep HN.out.bel u1, bkeep HN.out.bel p0, bkeep HN.out.bel p1⟩)
                        clear hK K
                        try simp only [List.getElem_toArray, List.getElem_cons_zero, List.getElem_cons_succ, Act.put, List.setIfInBounds_toArray, List.set_cons_zero, List.set_cons_succ]
                        refine wpAnyH_take (i := 18) (v := ?_) rfl (by kernel_rfl) (by kernel_rfl) (by kernel_rfl) (fun _ _ _ h => h) (Or.inl ⟨by rfl, ?_⟩) (by assumption) ?_
                        rotate_left; focus (intro w hSw; (try dsimp only at hSw); go_simp; try (with_reducible rfl); done)
                        try simp only [List.getElem_toArray, List.getElem_cons_zero, List.getElem_cons_succ, Act.put, List.setIfInBounds_toArray, List.set_cons_zero, List.set_cons_succ]
                        refine wpAnyH_ready (rs := [20]) (by kernel_rfl) (by simp) ?_
                        refine AllReadyH.cons rfl (fun K hK => ?_) AllReadyH.nil
                        (first | (go_at_call 37; (first | (with_reducible refine (HYA.out _ (HST.out.bel.trans (HN.out.bel.mono HST.out.bel.size))).mono ?_) | (with_reducible refine (HYB.out _ (HST.out.bel.trans (HN.out.bel.mono HST.out.bel.size))).mono ?_)); rintro e w8 ⟨rfl, hb8⟩; have HN := Lib.hid (HN.out.call hb8); clear hb8) | (refine St.stepAlloc (T := 94) (cs := #[.int .i64 0, .int .i64 0]) rfl rfl (by intro u; kernel_rfl) HN.out ?_; intro gq w8 hst8; have HN := Lib.hid hst8; clear hst8) | (refine St.stepRow rfl 94 (.tmp 16) (.tmp 84) rfl gq #[.int .i64 y1, .int .i64 y2] rfl rfl HN.out (by kernel_rfl) rfl (by simp [Value.oneCell']) ?_; intro w8 hst8; have HN := Lib.hid hst8; clear hst8))
                        refine hK.out _ _ ?_ (fun hHeld => ?_)
                        · (try dsimp only); (exact ⟨bkeep HN.out.bel z0, bkeep HN.out.bel z1, bkeep HN.out.bel u0, bkeep HN.out.bel u1, bkeep HN.out.bel p0, bkeep HN.out.bel p1⟩)
                        clear hK K
                        try simp only [List.getElem_toArray, List.getElem_cons_zero, List.getElem_cons_succ, Act.put, List.setIfInBounds_toArray, List.set_cons_zero, List.set_cons_succ]
                        refine wpAnyH_done (by kernel_rfl) ?_ _
                        exact REST _ _ (HST.out.join HN.out)
                    · skip
                      (first | (go_at_call 37; (first | (with_reducible refine (HYA.out _ (HST.out.bel.trans (HN.out.bel.mono HST.out.bel.size))).mono ?_) | (with_reducible refine (HYB.out _ (HST.out.bel.trans (HN.out.bel.mono HST.out.bel.size))).mono ?_)); rintro e w8 ⟨rfl, hb8⟩; have HN := Lib.hid (HN.out.call hb8); clear hb8) | (refine St.stepAlloc (T := 94) (cs := #[.int .i64 0, .int .i64 0]) rfl rfl (by intro u; kernel_rfl) HN.out ?_; intro gq w8 hst8; have HN := Lib.hid hst8; clear hst8) | (refine St.stepRow rfl 94 (.tmp 16) (.tmp 84) rfl gq #[.int .i64 y1, .int .i64 y2] rfl rfl HN.out (by kernel_rfl) rfl (by simp [Value.oneCell']) ?_; intro w8 hst8; have HN := Lib.hid hst8; clear hst8))
                      refine hK.out _ _ ?_ (fun hHeld => ?_)
                      · (try dsimp only); (exact ⟨bkeep HN.out.bel z0, bkeep HN.out.bel z1, bkeep HN.out.bel u0, bkeep HN.out.bel u1, bkeep HN.out.bel p0, bkeep HN.out.bel p1⟩)
                      clear hK K
                      try simp only [List.getElem_toArray, List.getElem_cons_zero, List.getElem_cons_succ, Act.put, List.setIfInBounds_toArray, List.set_cons_zero, List.set_cons_succ]
                      refine wpAnyH_ready (rs := [8]) (by kernel_rfl) (by simp) ?_
                      refine AllReadyH.cons rfl (fun K hK => ?_) (AllReadyH.nil)
                      go_simp
                      (first | (go_at_call 37; (first | (with_reducible refine (HYA.out _ (HST.out.bel.trans (HN.out.bel.mono HST.out.bel.size))).mono ?_) | (with_reducible refine (HYB.out _ (HST.out.bel.trans (HN.out.bel.mono HST.out.bel.size))).mono ?_)); rintro e w8 ⟨rfl, hb8⟩; have HN := Lib.hid (HN.out.call hb8); clear hb8) | (refine St.stepAlloc (T := 94) (cs := #[.int .i64 0, .int .i64 0]) rfl rfl (by intro u; kernel_rfl) HN.out ?_; intro gq w8 hst8; have HN := Lib.hid hst8; clear hst8) | (refine St.stepRow rfl 94 (.tmp 16) (.tmp 84) rfl gq #[.int .i64 y1, .int .i64 y2] rfl rfl HN.out (by kernel_rfl) rfl (by simp [Value.oneCell']) ?_; intro w8 hst8; have HN := Lib.hid hst8; clear hst8))
                      refine hK.out _ _ ?_ (fun hHeld => ?_)
                      · (try dsimp only); (exact ⟨bkeep HN.out.bel z0, bkeep HN.out.bel z1, bkeep HN.out.bel u0, bkeep HN.out.bel u1, bkeep HN.out.bel p0, bkeep HN.out.bel p1⟩)
                      clear hK K
                      try simp only [List.getElem_toArray, List.getElem_cons_zero, List.getElem_cons_succ, Act.put, List.setIfInBounds_toArray, List.set_cons_zero, List.set_cons_succ]
                      refine wpAnyH_ready (rs := [17]) (by kernel_rfl) (by simp) ?_
                      refine AllReadyH.cons rfl (fun K hK => ?_) (AllReadyH.nil)
                      go_simp
                      (first | (go_at_call 37; (first | (with_reducible refine (HYA.out _ (HST.out.bel.trans (HN.out.bel.mono HST.out.bel.size))).mono ?_) | (with_reducible refine (HYB.out _ (HST.out.bel.trans (HN.out.bel.mono HST.out.bel.size))).mono ?_)); rintro e w8 ⟨rfl, hb8⟩; have HN := Lib.hid (HN.out.call hb8); clear hb8) | (refine St.stepAlloc (T := 94) (cs := #[.int .i64 0, .int .i64 0]) rfl rfl (by intro u; kernel_rfl) HN.out ?_; intro gq w8 hst8; have HN := Lib.hid hst8; clear hst8) | (refine St.stepRow rfl 94 (.tmp 16) (.tmp 84) rfl gq #[.int .i64 y1, .int .i64 y2] rfl rfl HN.out (by kernel_rfl) rfl (by simp [Value.oneCell']) ?_; intro w8 hst8; have HN := Lib.hid hst8; clear hst8))
                      refine hK.out _ _ ?_ (fun hHeld => ?_)
                      · (try dsimp only); (exact ⟨bkeep HN.out.bel z0, bkeep HN.out.bel z1, bkeep HN.out.bel u0, bkeep HN.out.bel u1, bkeep HN.out.bel p0, bkeep HN.out.bel p1⟩)
                      clear hK K
                      try simp only [List.getElem_toArray, List.getElem_cons_zero, List.getElem_cons_succ, Act.put, List.setIfInBounds_toArray, List.set_cons_zero, List.set_cons_succ]
                      refine wpAnyH_take (i := 18) (v := ?_) rfl (by kernel_rfl) (by kernel_rfl) (by kernel_rfl) (fun _ _ _ h => h) (Or.inl ⟨by rfl, ?_⟩) (by assumption) ?_
                      rotate_left; focus (intro w hSw; (try dsimp only at hSw); go_simp; try (with_reducible rfl); done)
                      try simp only [List.getElem_toArray, List.getElem_cons_zero, List.getElem_cons_succ, Act.put, List.setIfInBounds_toArray, List.set_cons_zero, List.set_cons_succ]
                      refine wpAnyH_ready (rs := [20]) (by kernel_rfl) (by simp) ?_
                      refine AllReadyH.cons rfl (fun K hK => ?_) AllReadyH.nil
                      (first | (go_at_call 37; (first | (with_reducible refine (HYA.out _ (HST.out.bel.trans (HN.out.bel.mono HST.out.bel.size))).mono ?_) | (with_reducible refine (HYB.out _ (HST.out.bel.trans (HN.out.bel.mono HST.out.bel.size))).mono ?_)); rintro e w8 ⟨rfl, hb8⟩; have HN := Lib.hid (HN.out.call hb8); clear hb8) | (refine St.stepAlloc (T := 94) (cs := #[.int .i64 0, .int .i64 0]) rfl rfl (by intro u; kernel_rfl) HN.out ?_; intro gq w8 hst8; have HN := Lib.hid hst8; clear hst8) | (refine St.stepRow rfl 94 (.tmp 16) (.tmp 84) rfl gq #[.int .i64 y1, .int .i64 y2] rfl rfl HN.out (by kernel_rfl) rfl (by simp [Value.oneCell']) ?_; intro w8 hst8; have HN := Lib.hid hst8; clear hst8))
                      refine hK.out _ _ ?_ (fun hHeld => ?_)
                      · (try dsimp only); (exact ⟨bkeep HN.out.bel z0, bkeep HN.out.bel z1, bkeep HN.out.bel u0, bkeep HN.out.bel u1, bkeep HN.out.bel p0, bkeep HN.out.bel p1⟩)
                      clear hK K
                      try simp only [List.getElem_toArray, List.getElem_cons_zero, List.getElem_cons_succ, Act.put, List.setIfInBounds_toArray, List.set_cons_zero, List.set_cons_succ]
                      refine wpAnyH_done (by kernel_rfl) ?_ _
                      exact REST _ _ (HST.out.join HN.out)
                  intro gq W hst
                  have HST := Lib.hid hst
                  obtain ⟨x0, x1⟩ := hst.at2 0 rfl
                  clear hst z0 z1 u0 u1 p0 p1 HN HYA HYB
                  go_wp2_with (fail)
                  go_at_call 38
                  refine (HRS.out _).mono ?_
                  rintro e w5 ⟨rfl, hb5⟩
                  have HST := Lib.hid (HST.out.call hb5)
                  clear hb5 x0 x1
                  have k0 := ((show St w w5 [aOwn 4 1 (.slice (some ⟨gs, 0, none⟩) 40602 40602) (bs.map Value.bool)] from HST.out.nth 1 rfl).cellOwn (f := Value.bool) (fun _ => rfl) sp (by rw [HTK.out.len]; exact hsp) false).1
                  rw [HTI.out] at k0
                  obtain ⟨x0, x1⟩ := HST.out.at2 0 rfl
                  cases B
                  · simp only [Bool.false_eq_true, if_false] at HGS HOKC2
                    go_wp2_with (fail)
                    go_at_call 38
                    refine (HRS.out _).mono ?_
                    rintro e w6 ⟨rfl, hb6⟩
                    clear k0 x0 x1
                    have hs6 := (HST.out.call hb6).pick (ρ := aOwn 4 1 (.slice (some ⟨gs, 0, none⟩) 40602 40602) (bs.map Value.bool) :: aCel gq 94 #[.int .i64 y1, .int .i64 y2] :: aOwn 94 2 v1 ((Ap.pairs S' M0).map Ap.prV) :: aOwn 9 1 v2 ((Ap.texts S' M0).map Ap.sV) :: [aOwn 94 2 (.slice (some ⟨gn2, 0, none⟩) L cn) ((Ap.pairs (Ap.Q D m) m).map Ap.prV), aOwn 9 1 (.slice (some ⟨gt2, 0, none⟩) L ct) ((Ap.texts (Ap.Q D m) m).map Ap.sV), aCel (w.heap.size + 1) 25 #[b0, b1], aCel w.heap.size 25 #[a0, a1]]) [1, 0, 2, 3, 4, 5, 6, 7] 8 rfl rfl
                    obtain ⟨k0, k1⟩ := hs6.cellOwn (f := Value.bool) (fun _ => rfl) sp (by rw [HTK.out.len]; exact hsp) false
                    rw [HTI.out] at k0
                    have hs7 := hs6.setOwn (f := Value.bool) (fun _ => rfl) sp true
                    obtain ⟨x0, x1⟩ := hs7.at2 1 rfl
                    have HAP := Lib.hid (hs7.pick (ρ := aOwn 94 2 v1 ((Ap.pairs S' M0).map Ap.prV) :: aOwn 4 1 (.slice (some ⟨gs, 0, none⟩) 40602 40602) ((bs.set sp true).map Value.bool) :: aOwn 9 1 v2 ((Ap.texts S' M0).map Ap.sV) :: [aOwn 94 2 (.slice (some ⟨gn2, 0, none⟩) L cn) ((Ap.pairs (Ap.Q D m) m).map Ap.prV), aOwn 9 1 (.slice (some ⟨gt2, 0, none⟩) L ct) ((Ap.texts (Ap.Q D m) m).map Ap.sV), aCel (w.heap.size + 1) 25 #[b0, b1], aCel w.heap.size 25 #[a0, a1]]) [2, 0, 3, 4, 5, 6, 7] 8 rfl rfl)
                    have hpl1 : ((Ap.pairs S' M0).length : Int) ≤ 40401 := by rw [Ap.pairs_len]; omega
                    have htl1 : ((Ap.texts S' M0).length : Int) ≤ 40401 := by rw [Ap.texts_len]; omega
                    clear hs6 hs7 hb6 HST
                    go_wp2_with (at_builtin; refine St.app1n Ap.twE rfl (.tmp 97) (.tmp 99) rfl rfl HAP.out (Ap.prV (y1, y2)) rfl w6.heap.size 1 rfl (by simp) rfl (by intro q hq; simp [Ap.prV, Value.cells] at hq; rcases hq with rfl | rfl <;> rfl) (by rw [List.length_map]; unfold maxLen; omega) (by rw [List.length_map]; omega) ?_; intro g1 n1 c1 w7 hst7; have HA := Lib.hid hst7; clear hst7 HAP k0 k1 x0 x1)
                    have HSTD := Lib.hid HA.out.drew
                    have t0 : w7.drew.cell? ⟨gt2, i, none⟩ = some (.string tx) := by
                      rw [← HTX0.out]
                      exact ((show St w w7.drew [aOwn 9 1 (.slice (some ⟨gt2, 0, none⟩) L ct) ((Ap.texts (Ap.Q D m) m).map Ap.sV)] from HSTD.out.nth 4 rfl).cellOwn (f := Ap.sV) (fun _ => rfl) i (by rw [HTL.out]; exact hlti) ByteArray.empty).1
                    have hba := (Below.refl w7.drew.heap.size w7.drew).alloc (Nat.le_refl _) (.cells #[.int .u8 (cc : Int)] 5)
                    have t0a := bkeep hba t0
                    have hcvA : (convert 87 9 (.slice (some ⟨w7.heap.size, 0, none⟩) 1 1)).run Try.prog (w7.drew.alloc (.cells #[.int .u8 (cc : Int)] 5)) = .ok (.string (strOfNums [(cc : Int)])) (w7.drew.alloc (.cells #[.int .u8 (cc : Int)] 5)) := str_of_one Try.underlying87 Try.underlying5 Try.underlying9 _ _ _ _ (cell_new w7.drew _ _)
                    have hcvB : (convert 87 9 (.slice (some ⟨w7.heap.size, 0, none⟩) 1 1)).run Try.prog (w7.alloc (.cells #[.int .u8 (cc : Int)] 5)).drew = .ok (.string (strOfNums [(cc : Int)])) (w7.alloc (.cells #[.int .u8 (cc : Int)] 5)).drew := hcvA
                    have hw8 : IntKind.u8.wrap (cc : Int) = cc := by unfold IntKind.wrap; simp [IntKind.signed, IntKind.bits]; omega
                    have HSD := Lib.hid ((HSTD.out.pick (ρ := aOwn 9 1 v2 ((Ap.texts S' M0).map Ap.sV) :: aOwn 4 1 (.slice (some ⟨gs, 0, none⟩) 40602 40602) ((bs.set sp true).map Value.bool) :: aOwn 94 2 (.slice (some ⟨g1, 0, none⟩) n1 c1) ((Ap.pairs S' M0).map Ap.prV ++ [Ap.prV (y1, y2)]) :: [aOwn 94 2 (.slice (some ⟨gn2, 0, none⟩) L cn) ((Ap.pairs (Ap.Q D m) m).map Ap.prV), aOwn 9 1 (.slice (some ⟨gt2, 0, none⟩) L ct) ((Ap.texts (Ap.Q D m) m).map Ap.sV), aCel (w.heap.size + 1) 25 #[b0, b1], aCel w.heap.size 25 #[a0, a1]]) [2, 1, 0, 3, 4, 5, 6] 7 rfl rfl).skip (.cells #[.int .u8 (cc : Int)] 5))
                    have t0e : (w7.alloc (.cells #[.int .u8 (cc : Int)] 5)).drew.cell? ⟨gt2, i, none⟩ = some (.string tx) := t0a
                    have HSD2 := Lib.hid (show St w (w7.alloc (.cells #[.int .u8 (cc : Int)] 5)).drew (aOwn 9 1 v2 ((Ap.texts S' M0).map Ap.sV) :: aOwn 4 1 (.slice (some ⟨gs, 0, none⟩) 40602 40602) ((bs.set sp true).map Value.bool) :: aOwn 94 2 (.slice (some ⟨g1, 0, none⟩) n1 c1) ((Ap.pairs S' M0).map Ap.prV ++ [Ap.prV (y1, y2)]) :: [aOwn 94 2 (.slice (some ⟨gn2, 0, none⟩) L cn) ((Ap.pairs (Ap.Q D m) m).map Ap.prV), aOwn 9 1 (.slice (some ⟨gt2, 0, none⟩) L ct) ((Ap.texts (Ap.Q D m) m).map Ap.sV), aCel (w.heap.size + 1) 25 #[b0, b1], aCel w.heap.size 25 #[a0, a1]]) from HSD.out)
                    have htxs : tx.size ≤ 40401 := by
                      rw [HTX.out]
                      have h1 := Ap.path_len (Ap.Q D (m + i)) (m + i) (m + i)
                      have h2 := HLT2.out
                      have h3 := HGL.out
                      simp only [strOfNums, Ap.txt, ByteArray.size, List.size_toArray, List.length_map, List.length_reverse]
                      omega
                    have hones : (strOfNums [(cc : Int)]).size = 1 := rfl
                    have HNL := Lib.hid (show ¬ 9223372036854775807 < tx.size + (strOfNums [(cc : Int)]).size by rw [hones]; omega)
                    have htx2 : Hid (Ap.texts (S' ++ [((y1, y2), ((m + i : Nat) : Int), (cc : Int))]) M0 = Ap.texts S' M0 ++ [tx ++ strOfNums [(cc : Int)]]) := Lib.hid (by
                      have h1 := HM0L.out
                      have h2 := HGL.out
                      have h3 := HLT2.out
                      rw [Ap.texts_snoc (by omega) HOKC.out HOKC2.out (u := m + i) rfl (by omega), strOfNums_app, HTT.out, HTX.out])
                    have hpx2 : Hid (Ap.pairs (S' ++ [((y1, y2), ((m + i : Nat) : Int), (cc : Int))]) M0 = Ap.pairs S' M0 ++ [(y1, y2)]) := Lib.hid (Ap.pairs_snoc _ (by have h1 := HM0L.out; have h2 := HGL.out; omega))
                    have HTK2 := Lib.hid (show Ap.Tick (bs.set sp true) (S' ++ [((y1, y2), ((m + i : Nat) : Int), (cc : Int))]) by
                      have h := HTK.out.add (i := ((y1, y2), ((m + i : Nat) : Int), (cc : Int))) HIN.out
                      rw [show Ap.spot ((y1, y2), ((m + i : Nat) : Int), (cc : Int)).1 = sp from HSPE.out] at h
                      exact h)
                    clear hba htxs hones
                    have hnl := HNL.out
                    (try simp only [Act.put])
                    refine wp_region_held_drew (S := (fun w' => w'.cell? ⟨gt2, i, none⟩ = some (.string tx))) (by kernel_rfl) ?_ (fun hHeld => ?_)
                    · (try dsimp only); (first | exact t0 | exact t0a | exact t0c | exact bkeep ((Below.refl _ _).alloc (Nat.le_refl _) _) t0e)

                    refine wpAnyH_take (i := 0) (v := ?_) rfl (by kernel_rfl) (by kernel_rfl) (by kernel_rfl) (fun _ _ _ h => h) (Or.inl ⟨by rfl, ?_⟩) (by assumption) ?_
                    rotate_left; focus (intro w hSw; (try dsimp only at hSw); go_simp; try (with_reducible rfl); done)
                    try simp only [List.getElem_toArray, List.getElem_cons_zero, List.getElem_cons_succ, Act.put, List.setIfInBounds_toArray, List.set_cons_zero, List.set_cons_succ]
                    refine wpAnyH_take (i := 1) (v := ?_) rfl (by kernel_rfl) (by kernel_rfl) (by kernel_rfl) (fun _ _ _ h => h) (Or.inl ⟨by rfl, ?_⟩) (by assumption) ?_
                    rotate_left; focus (intro w hSw; (try dsimp only at hSw); go_simp; try (with_reducible rfl); done)
                    try simp only [List.getElem_toArray, List.getElem_cons_zero, List.getElem_cons_succ, Act.put, List.setIfInBounds_toArray, List.set_cons_zero, List.set_cons_succ]
                    refine wpAnyH_take (i := 2) (v := ?_) rfl (by kernel_rfl) (by kernel_rfl) (by kernel_rfl) (fun _ _ _ h => h) (Or.inl ⟨by rfl, ?_⟩) (by assumption) ?_
                    rotate_left; focus (intro w hSw; (try dsimp only at hSw); go_simp; try (with_reducible rfl); done)
                    try simp only [List.getElem_toArray, List.getElem_cons_zero, List.getElem_cons_succ, Act.put, List.setIfInBounds_toArray, List.set_cons_zero, List.set_cons_succ]
                    refine wpAnyH_take (i := 3) (v := ?_) rfl (by kernel_rfl) (by kernel_rfl) (by kernel_rfl) (fun _ _ _ h => h) (Or.inl ⟨by rfl, ?_⟩) (by assumption) ?_
                    rotate_left; focus (intro w hSw; (try dsimp only at hSw); go_simp; try (with_reducible rfl); done)
                    try simp only [List.getElem_toArray, List.getElem_cons_zero, List.getElem_cons_succ, Act.put, List.setIfInBounds_toArray, List.set_cons_zero, List.set_cons_succ]
                    refine wpAnyH_take (i := 4) (v := ?_) rfl (by kernel_rfl) (by kernel_rfl) (by kernel_rfl) (fun _ _ _ h => h) (Or.inl ⟨by rfl, ?_⟩) (by assumption) ?_
                    rotate_left; focus (intro w hSw; (try dsimp only at hSw); go_simp; try (with_reducible rfl); done)
                    try simp only [List.getElem_toArray, List.getElem_cons_zero, List.getElem_cons_succ, Act.put, List.setIfInBounds_toArray, List.set_cons_zero, List.set_cons_succ]
                    refine wpAnyH_take (i := 5) (v := ?_) rfl (by kernel_rfl) (by kernel_rfl) (by kernel_rfl) (fun _ _ _ h => h) (Or.inl ⟨by rfl, ?_⟩) (by assumption) ?_
                    rotate_left; focus (intro w hSw; (try dsimp only at hSw); go_simp; try (with_reducible rfl); done)
                    try simp only [List.getElem_toArray, List.getElem_cons_zero, List.getElem_cons_succ, Act.put, List.setIfInBounds_toArray, List.set_cons_zero, List.set_cons_succ]
                    refine wpAnyH_take (i := 6) (v := ?_) rfl (by kernel_rfl) (by kernel_rfl) (by kernel_rfl) (fun _ _ _ h => h) (Or.inl ⟨by rfl, ?_⟩) (by assumption) ?_
                    rotate_left; focus (intro w hSw; (try dsimp only at hSw); go_simp; try (with_reducible rfl); done)
                    try simp only [List.getElem_toArray, List.getElem_cons_zero, List.getElem_cons_succ, Act.put, List.setIfInBounds_toArray, List.set_cons_zero, List.set_cons_succ]
                    refine wpAnyH_ready (rs := [7]) (by kernel_rfl) (by simp) ?_
                    refine AllReadyH.cons rfl (fun K hK => ?_) AllReadyH.nil
                    go_simp
                    refine hK.out _ _ ?_ (fun hHeld => ?_)
                    · (try dsimp only); (first | exact t0 | exact t0a | exact t0c | exact bkeep ((Below.refl _ _).alloc (Nat.le_refl _) _) t0e)
                    clear hK K
                    try simp only [List.getElem_toArray, List.getElem_cons_zero, List.getElem_cons_succ, Act.put, List.setIfInBounds_toArray, List.set_cons_zero, List.set_cons_succ]
                    refine wpAnyH_ready (rs := [8]) (by kernel_rfl) (by simp) ?_
                    refine AllReadyH.cons rfl (fun K hK => ?_) AllReadyH.nil
                    go_simp
                    refine hK.out _ _ ?_ (fun hHeld => ?_)
                    · (try dsimp only); (first | exact t0 | exact t0a | exact t0c | exact bkeep ((Below.refl _ _).alloc (Nat.le_refl _) _) t0e)
                    clear hK K
                    try simp only [List.getElem_toArray, List.getElem_cons_zero, List.getElem_cons_succ, Act.put, List.setIfInBounds_toArray, List.set_cons_zero, List.set_cons_succ]
                    refine wpAnyH_take (i := 9) (v := ?_) rfl (by kernel_rfl) (by kernel_rfl) (by kernel_rfl) (fun _ _ _ h => h) (Or.inl ⟨by rfl, ?_⟩) (by assumption) ?_
                    rotate_left; focus (intro w hSw; (try dsimp only at hSw); go_simp; try (with_reducible rfl); done)
                    try simp only [List.getElem_toArray, List.getElem_cons_zero, List.getElem_cons_succ, Act.put, List.setIfInBounds_toArray, List.set_cons_zero, List.set_cons_succ]
                    refine wpAnyH_ready (rs := [10]) (by kernel_rfl) (by simp) ?_
                    refine AllReadyH.cons rfl (fun K hK => ?_) AllReadyH.nil
                    go_simp
                    refine hK.out _ _ ?_ (fun hHeld => ?_)
                    · (try dsimp only); (first | exact t0 | exact t0a | exact t0c | exact bkeep ((Below.refl _ _).alloc (Nat.le_refl _) _) t0e)
                    clear hK K
                    try simp only [List.getElem_toArray, List.getElem_cons_zero, List.getElem_cons_succ, Act.put, List.setIfInBounds_toArray, List.set_cons_zero, List.set_cons_succ]
                    refine wpAnyH_ready (rs := [11]) (by kernel_rfl) (by simp) ?_
                    refine AllReadyH.cons rfl (fun K hK => ?_) AllReadyH.nil
                    (refine St.step1n (W := (w7.alloc (.cells #[.int .u8 (cc : Int)] 5)).drew) (T := 9) (cs := #[.string (tx ++ strOfNums [(cc : Int)])]) Ap.strE rfl (.tmp 101) (.tmp 111) rfl rfl HSD2.out (Ap.sV (tx ++ strOfNums [(cc : Int)])) rfl (w7.alloc (.cells #[.int .u8 (cc : Int)] 5)).drew.heap.size 1 ?e1 rfl rfl (by intro q hq; simp [Ap.sV, Value.cells] at hq; subst hq; rfl) (by rw [List.length_map]; unfold maxLen; omega) (by rw [List.length_map]; omega) ?_; (case e1 => simp [Act.eval]); intro g2 n2 c2 wB hstB; have t0c : wB.cell? ⟨gt2, i, none⟩ = some (.string tx) := (by rw [← HTX0.out]; exact ((show St w wB [aOwn 9 1 (.slice (some ⟨gt2, 0, none⟩) L ct) ((Ap.texts (Ap.Q D m) m).map Ap.sV)] from hstB.nth 4 rfl).cellOwn (f := Ap.sV) (fun _ => rfl) i (by rw [HTL.out]; exact hlti) ByteArray.empty).1); have HSTB := Lib.hid hstB; clear hstB)
                    refine hK.out _ _ ?_ (fun hHeld => ?_)
                    · (try dsimp only); (first | exact t0 | exact t0a | exact t0c | exact bkeep ((Below.refl _ _).alloc (Nat.le_refl _) _) t0e)
                    clear hK K
                    try simp only [List.getElem_toArray, List.getElem_cons_zero, List.getElem_cons_succ, Act.put, List.setIfInBounds_toArray, List.set_cons_zero, List.set_cons_succ]
                    refine wpAnyH_take (i := 12) (v := ?_) rfl (by kernel_rfl) (by kernel_rfl) (by kernel_rfl) (fun _ _ _ h => h) (Or.inl ⟨by rfl, ?_⟩) (by assumption) ?_
                    rotate_left; focus (intro w hSw; (try dsimp only at hSw); go_simp; try (with_reducible rfl); done)
                    try simp only [List.getElem_toArray, List.getElem_cons_zero, List.getElem_cons_succ, Act.put, List.setIfInBounds_toArray, List.set_cons_zero, List.set_cons_succ]
                    refine wpAnyH_done (by kernel_rfl) ?_ _
                    clear hnl t0 t0a t0e t0c hcvA hcvB
                    go_wp2
                    go_roundg (256 - (cc + 1))
                    case measure => have := HGKC.out; omega
                    case rel =>
                      refine ⟨cc + 1, _, _, bs.set sp true, by omega, rfl, by go_num, rfl, rfl, Lib.hid (by rw [HGS.out]; exact HTK2.out), ?_⟩
                      rw [HGS.out, htx2.out, hpx2.out]
                      unfold Ap.b4
                      rw [List.map_append, List.map_append]
                      exact HSTB.out.pick [1, 2, 0, 3, 4, 5, 6] 7 rfl rfl
                  · simp only [if_true] at HGS
                    go_wp2
                    go_roundg (256 - (cc + 1))
                    case measure => have := HGKC.out; omega
                    case rel => exact ⟨cc + 1, _, _, bs, by omega, rfl, by go_num, rfl, rfl, Lib.hid (by rw [HGS.out]; exact HTK.out), by rw [HGS.out]; exact HST.out.drop⟩
                · obtain rfl : cc = 256 := by omega
                  have HST := Lib.hid hst
                  clear hst
                  have hq := HQS.out
                  rw [show Ap.grow D (Ap.Q D (m + i)) (m + i) = Ap.growK D (xa, xb) (m + i) (Ap.Q D (m + i)) 256 by unfold Ap.grow; rw [HX.out]] at hq
                  have HQ1 := Lib.hid hq
                  clear hq
                  go_wp2
                  go_roundg (L - (i + 1))
                  case measure => have := HGKI.out; omega
                  case rel => exact ⟨i + 1, _, _, bs, by omega, rfl, by go_num, rfl, rfl, Lib.hid (by rw [← Nat.add_assoc, HQ1.out]; exact HTK.out), by rw [← Nat.add_assoc, HQ1.out]; exact HST.out⟩
            · obtain rfl : L = i := by omega
              have hlen2 := Ap.ok_small HG.out HOK.out
              rw [HM0.out] at hlen2
              have HST := Lib.hid hst
              clear hst
              go_wp2
              go_roundg (50000 - (m + L))
              case measure => have := HGK.out; omega
              case rel =>
                refine ⟨m + L, _, _, bs, ?_, rfl, rfl, rfl, Lib.hid (fun j hj => ?_), HTK, ?_⟩
                · have := Ap.Q_len_le D m L
                  have := HM0.out
                  omega
                · rw [(Ap.Q_at_le (Nat.le_add_right m L) (by have := HM0.out; omega)).1]
                  exact HEQ2.out j hj
                · have h1 := HST.out
                  rw [hM0L] at h1
                  exact h1.pick [0, 1, 2, 5, 6] 7 rfl rfl
    · obtain rfl : L = 0 := by omega
      have HST := Lib.hid hst
      have HSY := Lib.hid (HSAY.out m [] false HEQ.out (.inr ⟨by have := HLS.out; omega, rfl, rfl⟩))
      clear hst hlen hpl htl hL hLS hok
      go_wp2
      go_ret2
      exact ⟨[], false, rfl, HSY, HST.out.bel⟩
end Go.Proofs.Ytbpjmdemmmdnbaa
