/-
  Begin of the reference: what some symbols begin with.
-/
import Derived.Test.YtldapomcjfkeeaaFcClo
namespace Go.Proofs.Ytldapomcjfkeeaa
set_option linter.unusedVariables false
set_option linter.unusedSimpArgs false
open Go.ChangeShapes Go.WideShapes Go.ChangeAt Go.RowKit

set_option maxRecDepth 100000 in
set_option maxHeartbeats 1600000 in
theorem fcRBeg_any (w0 : World) (gE nE cE gF nF cF : Nat) (vW vR vM : Value) (E : List Bool) (Fs : List Nat) (behind : Nat) (F : Nat → Prop) (hnE : nE = E.length) (hnF : nF = Fs.length) (hEF : Fs.length = E.length) (hF : ∀ i, Fs.getD i 0 < 18446744073709551616) (hbh : behind < 18446744073709551616) :
    ∀ (body : List (Int × Int)) (vb : Value) (w : World) (μ : List Asrt), (Enc.two.sl 16).R F w0 [vb] body → (∀ x ∈ body, (x.1 = 1 ∧ 0 ≤ x.2 ∧ x.2 < 64) ∨ (x.1 = 2 ∧ 0 ≤ x.2 ∧ x.2 < E.length)) → St w0 w (Fc.aB (.slice (some ⟨gE, 0, none⟩) nE cE) E :: Fc.aU (.slice (some ⟨gF, 0, none⟩) nF cF) Fs :: μ) →
    Calls Try.prog 49 #[.agg #[.slice (some ⟨gE, 0, none⟩) nE cE, .slice (some ⟨gF, 0, none⟩) nF cF, vW, vR, vM], vb, .int .u64 (behind : Int)] w fun e w' => e = .returned (.int .u64 ((Fc.beg E Fs behind body : Nat) : Int)) ∧ St w0 w' (Fc.aB (.slice (some ⟨gE, 0, none⟩) nE cE) E :: Fc.aU (.slice (some ⟨gF, 0, none⟩) nF cF) Fs :: μ) := by
  have HNE := Lib.hid hnE; have HNF := Lib.hid hnF; have HEF := Lib.hid hEF; have HF := Lib.hid hF; have HBH := Lib.hid hbh
  clear hnE hnF hEF hF hbh
  intro body
  induction body with
  | nil =>
    intro vb w μ hb _ hst
    obtain ⟨ab, bb, ob, cb, rfl, -, -, -⟩ := slTwo hb
    have HST := Lib.hid (hst.skip (.cells #[.slice (some ⟨gE, 0, none⟩) nE cE, .slice (some ⟨gF, 0, none⟩) nF cF, vW, vR, vM] 88))
    clear hst hb
    go_enter Try.func49, Try.ntmps49
    go_wp2
    go_ret
    exact ⟨rfl, HST.out⟩
  | cons x r ih =>
    intro vb w μ hb hx hst
    have hb2 := hb
    obtain ⟨ab, bb, ob, cb, rfl, hl, b3, b4⟩ := slTwo hb2
    have hxx := hx x (.head _)
    have hxr := fun y hy => hx y (.tail _ hy)
    have hpos : 0 < (x :: r).length := by simp
    obtain ⟨rfl, -, -⟩ := b3 hpos
    obtain ⟨s1, s2, -, -⟩ := b4 0 hpos
    have hgd : (x :: r).getD 0 (0, 0) = x := rfl
    rw [hgd] at s1 s2
    simp only [Nat.zero_mul, Nat.add_zero] at s1 s2
    have hbig := hst.alloc #[.slice (some ⟨gE, 0, none⟩) nE cE, .slice (some ⟨gF, 0, none⟩) nF cF, vW, vR, vM] 88
    have s1 := bkeep hst.bel s1
    have s2 := bkeep hst.bel s2
    have hlb := World.block_lt_of_cell? _ _ s1
    have hsz := hst.bel.size
    have hll : ((x :: r).length : Int) ≤ 140737488355328 := by omega
    obtain ⟨x1, x2⟩ := x
    have hbn : (Enc.two.sl 16).R F w0 [Go.sliced (some ⟨bb, ob, none⟩) 1 ((x1, x2) :: r).length cb 2] r := by
      have := Enc.sliced hb 1 ((x1, x2) :: r).length (by simp) (Nat.le_refl _)
      rw [List.take_length] at this
      exact this
    have hbc : ((x1, x2) :: r).length ≤ cb := by
      obtain ⟨_, _, _, _, hq, hle, _⟩ := hb
      simp only [List.cons.injEq, Value.slice.injEq, and_true, true_and] at hq
      omega
    have hs1 : ∀ W, (Instr.slice 84 (.slice (some ⟨bb, ob, none⟩) ((x1, x2) :: r).length cb) (some (.int .i64 1)) none none).run Try.prog W = .ok (Go.sliced (some ⟨bb, ob, none⟩) 1 ((x1, x2) :: r).length cb 2) W := fun W => by
      have hsz : (sizeOf (Try.prog.elem 84)).run Try.prog W = .ok 2 W := by kernel_rfl
      have := run_slice_l (P := Try.prog) W 84 (some ⟨bb, ob, none⟩) ((x1, x2) :: r).length cb (by kernel_rfl) .i64 1 (by decide) (by simp; omega)
      rw [hsz] at this
      exact this
    generalize Go.sliced (some ⟨bb, ob, none⟩) 1 ((x1, x2) :: r).length cb 2 = V1 at hs1 hbn
    have IH := Lib.hid fun W μ hs => ih V1 W μ hbn hxr hs
    obtain ⟨R, hR⟩ : ∃ R, Fc.beg E Fs behind ((x1, x2) :: r) = R := ⟨_, rfl⟩
    rw [hR]
    generalize ((x1, x2) :: r).length = ln at *
    have HST := Lib.hid (hbig.alloc #[.int .i64 x1, .int .i64 x2] 96)
    simp only [World.size_alloc] at HST
    have hln : (ln : Int) ≠ 0 := by omega
    have hz : ((ln : Int) == 0) = false := by rw [beq_eq_false_iff_ne]; exact hln
    have hln0 : (0 : Int) < ln := by omega
    simp only at hxx
    have HXR := Lib.hid hxr
    clear hb b3 b4 hx hxr hst hbig ih hbn hbc hgd hln hl
    rcases hxx with ⟨rfl, h0, h64⟩ | ⟨rfl, h0, h1⟩
    · rw [Fc.beg_term rfl] at hR
      obtain ⟨q, rfl⟩ := Int.eq_ofNat_of_zero_le h0
      have hpow : 2 ^ q < 18446744073709551616 := Nat.pow_lt_pow_right (a := 2) (m := q) (n := 64) (by decide) (by omega)
      have hsh : IntKind.u64.wrap ((2 : Int) ^ q) = ((2 ^ q : Nat) : Int) := by
        have e : ((2 : Int) ^ q) = ((2 ^ q : Nat) : Int) := by simp
        rw [e, IntKind.wrap_u64]
        exact Int.emod_eq_of_lt (Int.natCast_nonneg _) (Int.ofNat_lt.2 hpow)
      rw [Int.toNat_natCast] at hR
      rw [hR] at hsh
      have HSH := Lib.hid hsh
      clear hR hpow hsh IH hs1
      go_enter Try.func49, Try.ntmps49
      go_wp2
      go_ret
      exact ⟨congrArg (fun x => Ending.returned (.int .u64 x)) HSH.out, HST.out.drop.drop⟩
    · obtain ⟨q, rfl⟩ := Int.eq_ofNat_of_zero_le h0
      have hq : q < E.length := by omega
      have hqF : q < Fs.length := by have := HEF.out; omega
      have hqn : (q : Int) < nE := by have := HNE.out; omega
      have hqn2 : (q : Int) < nF := by have := HNF.out; omega
      have h21 : ¬ ((2 : Int) = 1) := by decide
      obtain ⟨x0, x1, x2, x3, x4⟩ := HST.out.at5 1 rfl
      obtain ⟨y0, y1⟩ := HST.out.at2 0 rfl
      have e1 := ((show St w0 _ (aOwn 4 1 (.slice (some ⟨gE, 0, none⟩) nE cE) (E.map Value.bool) :: _) from HST.out.nth 2 rfl).cellOwn (f := Value.bool) (fun _ => rfl) q hq false).1
      have f1 := ((show St w0 _ (aOwn 85 1 (.slice (some ⟨gF, 0, none⟩) nF cF) (Fs.map Fc.uV) :: _) from HST.out.nth 3 rfl).cellOwn (f := Fc.uV) (fun _ => rfl) q hqF 0).1
      cases hv : E.getD q false
      · rw [hv] at e1
        rw [Fc.beg_stop h21 (by rw [Int.toNat_natCast]; exact hv), Int.toNat_natCast] at hR
        have HR2 := Lib.hid hR
        generalize Fs.getD q 0 = y at *
        replace f1 : World.cell? _ ⟨gF, q, none⟩ = some (.int .u64 (y : Int)) := f1
        clear hv hq hqF h21 hR IH hs1
        go_enter Try.func49, Try.ntmps49
        go_wp2
        go_ret
        exact ⟨congrArg (fun x : Nat => Ending.returned (.int .u64 (x : Int))) HR2.out, HST.out.drop.drop⟩
      · rw [hv] at e1
        rw [Fc.beg_on h21 (by rw [Int.toNat_natCast]; exact hv), Int.toNat_natCast] at hR
        have HR2 := Lib.hid hR
        have hlt := HF.out q
        have hbl := Fc.beg_lt (k := 64) (E := E) (b := behind) (body := r) (fun i => HF.out i) HBH.out (fun z hz h1 => by rcases HXR.out z hz with ⟨-, a, b⟩ | ⟨a, -⟩ <;> omega)
        have HOR := Lib.hid (bits_or_u64_nat (Fs.getD q 0) (Fc.beg E Fs behind r) hlt hbl)
        have HFQ := Lib.hid fun (W : World) (μ' : List Asrt) (hs : St w0 W (Fc.aB (.slice (some ⟨gE, 0, none⟩) nE cE) E :: Fc.aU (.slice (some ⟨gF, 0, none⟩) nF cF) Fs :: μ')) => (show W.cell? ⟨gF, q, none⟩ = some (.int .u64 ((Fs.getD q 0 : Nat) : Int)) from
          ((show St w0 W (aOwn 85 1 (.slice (some ⟨gF, 0, none⟩) nF cF) (Fs.map Fc.uV) :: _) from hs.nth 1 rfl).cellOwn (f := Fc.uV) (fun _ => rfl) q hqF 0).1)
        generalize Fs.getD q 0 = y at *
        replace f1 : World.cell? _ ⟨gF, q, none⟩ = some (.int .u64 (y : Int)) := f1
        clear hv hq hqF h21 hR hlt hbl
        go_enter Try.func49, Try.ntmps49
        go_wp2
        have HSTD := Lib.hid (HST.out.drew.pick (ρ := Fc.aB (.slice (some ⟨gE, 0, none⟩) nE cE) E :: Fc.aU (.slice (some ⟨gF, 0, none⟩) nF cF) Fs :: aCel (w.heap.size + 1) 96 #[.int .i64 2, .int .i64 q] :: aCel w.heap.size 88 #[.slice (some ⟨gE, 0, none⟩) nE cE, .slice (some ⟨gF, 0, none⟩) nF cF, vW, vR, vM] :: μ) [2, 3, 0, 1] 4 rfl rfl)
        refine wp_region_held_drew (S := (fun w' => w'.cell? ⟨w.heap.size, 0, none⟩ = some (.slice (some ⟨gE, 0, none⟩) nE cE) ∧ w'.cell? ⟨w.heap.size, 1, none⟩ = some (.slice (some ⟨gF, 0, none⟩) nF cF) ∧ w'.cell? ⟨w.heap.size, 2, none⟩ = some vW ∧ w'.cell? ⟨w.heap.size, 3, none⟩ = some vR ∧ w'.cell? ⟨w.heap.size, 4, none⟩ = some vM ∧ w'.cell? ⟨w.heap.size + 1, 1, none⟩ = some (.int .i64 q) ∧ w'.cell? ⟨gF, q, none⟩ = some (.int .u64 y))) (by kernel_rfl) ?_ (fun hHeld => ?_)
        · (try dsimp only); (first | exact ⟨x0, x1, x2, x3, x4, y1, f1⟩ | go_keep)
        refine wpAnyH_take (i := 0) (v := ?_) rfl (by kernel_rfl) (by kernel_rfl) (by kernel_rfl) (fun _ _ _ h => h) (Or.inl ⟨by rfl, ?_⟩) (by assumption) ?_
        rotate_left; focus (intro w hSw; (try dsimp only at hSw); go_simp; try (with_reducible rfl); done)
        try simp only [List.getElem_toArray, List.getElem_cons_zero, List.getElem_cons_succ, Act.put, List.setIfInBounds_toArray, List.set_cons_zero, List.set_cons_succ]
        refine wpAnyH_take (i := 1) (v := ?_) rfl (by kernel_rfl) (by kernel_rfl) (by kernel_rfl) (fun _ _ _ h => h) (Or.inl ⟨by rfl, ?_⟩) (by assumption) ?_
        rotate_left; focus (intro w hSw; (try dsimp only at hSw); go_simp; try (with_reducible rfl); done)
        try simp only [List.getElem_toArray, List.getElem_cons_zero, List.getElem_cons_succ, Act.put, List.setIfInBounds_toArray, List.set_cons_zero, List.set_cons_succ]
        refine wpAnyH_take (i := 2) (v := ?_) rfl (by kernel_rfl) (by kernel_rfl) (by kernel_rfl) (fun _ _ _ h => h) (Or.inl ⟨by rfl, ?_⟩) (by assumption) ?_
        rotate_left; focus (intro w hSw; (try dsimp only at hSw); go_simp; try (with_reducible rfl); done)
        try simp only [List.getElem_toArray, List.getElem_cons_zero, List.getElem_cons_succ, Act.put, List.setIfInBounds_toArray, List.set_cons_zero, List.set_cons_succ]
        refine wpAnyH_take (i := 3) (v := ?_) rfl (by kernel_rfl) (by kernel_rfl) (by kernel_rfl) (fun _ _ _ h => h) (Or.inl ⟨by rfl, ?_⟩) (by assumption) ?_
        rotate_left; focus (intro w hSw; (try dsimp only at hSw); go_simp; try (with_reducible rfl); done)
        try simp only [List.getElem_toArray, List.getElem_cons_zero, List.getElem_cons_succ, Act.put, List.setIfInBounds_toArray, List.set_cons_zero, List.set_cons_succ]
        refine wpAnyH_take (i := 4) (v := ?_) rfl (by kernel_rfl) (by kernel_rfl) (by kernel_rfl) (fun _ _ _ h => h) (Or.inl ⟨by rfl, ?_⟩) (by assumption) ?_
        rotate_left; focus (intro w hSw; (try dsimp only at hSw); go_simp; try (with_reducible rfl); done)
        try simp only [List.getElem_toArray, List.getElem_cons_zero, List.getElem_cons_succ, Act.put, List.setIfInBounds_toArray, List.set_cons_zero, List.set_cons_succ]
        refine wpAnyH_take (i := 5) (v := ?_) rfl (by kernel_rfl) (by kernel_rfl) (by kernel_rfl) (fun _ _ _ h => h) (Or.inl ⟨by rfl, ?_⟩) (by assumption) ?_
        rotate_left; focus (intro w hSw; (try dsimp only at hSw); go_simp; try (with_reducible rfl); done)
        try simp only [List.getElem_toArray, List.getElem_cons_zero, List.getElem_cons_succ, Act.put, List.setIfInBounds_toArray, List.set_cons_zero, List.set_cons_succ]
        refine wpAnyH_take (i := 6) (v := ?_) rfl (by kernel_rfl) (by kernel_rfl) (by kernel_rfl) (fun _ _ _ h => h) (Or.inl ⟨by rfl, ?_⟩) (by assumption) ?_
        rotate_left; focus (intro w hSw; (try dsimp only at hSw); go_simp; try (with_reducible rfl); done)
        try simp only [List.getElem_toArray, List.getElem_cons_zero, List.getElem_cons_succ, Act.put, List.setIfInBounds_toArray, List.set_cons_zero, List.set_cons_succ]
        refine wpAnyH_take (i := 7) (v := ?_) rfl (by kernel_rfl) (by kernel_rfl) (by kernel_rfl) (fun _ _ _ h => h) (Or.inl ⟨by rfl, ?_⟩) (by assumption) ?_
        rotate_left; focus (intro w hSw; (try dsimp only at hSw); go_simp; try (with_reducible rfl); done)
        try simp only [List.getElem_toArray, List.getElem_cons_zero, List.getElem_cons_succ, Act.put, List.setIfInBounds_toArray, List.set_cons_zero, List.set_cons_succ]
        refine wpAnyH_take (i := 8) (v := ?_) rfl (by kernel_rfl) (by kernel_rfl) (by kernel_rfl) (fun _ _ _ h => h) (Or.inl ⟨by rfl, ?_⟩) (by assumption) ?_
        rotate_left; focus (intro w hSw; (try dsimp only at hSw); go_simp; try (with_reducible rfl); done)
        try simp only [List.getElem_toArray, List.getElem_cons_zero, List.getElem_cons_succ, Act.put, List.setIfInBounds_toArray, List.set_cons_zero, List.set_cons_succ]
        refine wpAnyH_take (i := 9) (v := ?_) rfl (by kernel_rfl) (by kernel_rfl) (by kernel_rfl) (fun _ _ _ h => h) (Or.inl ⟨by rfl, ?_⟩) (by assumption) ?_
        rotate_left; focus (intro w hSw; (try dsimp only at hSw); go_simp; try (with_reducible rfl); done)
        try simp only [List.getElem_toArray, List.getElem_cons_zero, List.getElem_cons_succ, Act.put, List.setIfInBounds_toArray, List.set_cons_zero, List.set_cons_succ]
        refine wpAnyH_ready (rs := [10]) (by kernel_rfl) (by simp) ?_
        refine AllReadyH.cons rfl (fun K hK => ?_) AllReadyH.nil
        go_simp
        (go_at_call 49; refine (IH.out _ _ HSTD.out).mono ?_; rintro e w8 ⟨rfl, hst8⟩; have HSTD := Lib.hid hst8; obtain ⟨x0, x1, x2, x3, x4⟩ := hst8.at5 3 rfl; obtain ⟨y0, y1⟩ := hst8.at2 2 rfl; have f1 := HFQ.out _ _ hst8; clear hst8)
        refine hK.out _ _ ?_ (fun hHeld => ?_)
        · (try dsimp only); (first | exact ⟨x0, x1, x2, x3, x4, y1, f1⟩ | go_keep)
        clear hK K
        try simp only [List.getElem_toArray, List.getElem_cons_zero, List.getElem_cons_succ, Act.put, List.setIfInBounds_toArray, List.set_cons_zero, List.set_cons_succ]
        refine wpAnyH_take (i := 11) (v := ?_) rfl (by kernel_rfl) (by kernel_rfl) (by kernel_rfl) (fun _ _ _ h => h) (Or.inl ⟨by rfl, ?_⟩) (by assumption) ?_
        rotate_left; focus (intro w hSw; (try dsimp only at hSw); go_simp; try (with_reducible rfl); done)
        try simp only [List.getElem_toArray, List.getElem_cons_zero, List.getElem_cons_succ, Act.put, List.setIfInBounds_toArray, List.set_cons_zero, List.set_cons_succ]
        refine wpAnyH_take (i := 12) (v := ?_) rfl (by kernel_rfl) (by kernel_rfl) (by kernel_rfl) (fun _ _ _ h => h) (Or.inl ⟨by rfl, ?_⟩) (by assumption) ?_
        rotate_left; focus (intro w hSw; (try dsimp only at hSw); go_simp; try (with_reducible rfl); done)
        try simp only [List.getElem_toArray, List.getElem_cons_zero, List.getElem_cons_succ, Act.put, List.setIfInBounds_toArray, List.set_cons_zero, List.set_cons_succ]
        refine wpAnyH_done (by kernel_rfl) ?_ _
        clear x0 x1 x2 x3 x4 y0 y1 f1 e1 IH HFQ hs1 HST
        go_wp2
        go_ret
        exact ⟨congrArg (fun x => Ending.returned (.int .u64 x)) (HOR.out.trans (by rw [HR2.out])), HSTD.out.pick [0, 1] 4 rfl rfl⟩
end Go.Proofs.Ytldapomcjfkeeaa
