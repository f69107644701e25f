/-
  Parts of the proof of ItemsCloses, put together: ItLooks FcClo FcRBeg ItClosed. (Helper texts.)
-/
import Derived.Test.YtkhjncbjdldpbaaG1
import Derived.Test.YtkhjncbjdldpbaaG2
import Derived.Test.YtkhjncbjdldpbaaG3
import Derived.Laws.Bits64b
import Derived.Laws.BitsAllLaws
import Derived.Deep.QuietTactic
import Derived.BigQuiet
import Derived.Deep.LoopGhost

/-
  looks of package items: what comes up behind an item, kept by its place.
-/
namespace Go.Proofs.Ytkhjncbjdldpbaa
set_option linter.unusedVariables false
set_option linter.unusedSimpArgs false
open Go.ChangeShapes Go.WideShapes Go.ChangeAt Go.RowKit

namespace It
/-- The facts of a grammar, if there are any (there is one such data only). -/
def HasF (l : List Fc.Pr) (N : Nat) : Prop := ∃ (q : List Bool × List Nat), ∃ W R M, Fc.Good l N q.1 q.2 W R M
open Classical in
noncomputable def theE (l : List Fc.Pr) (N : Nat) : List Bool := if h : HasF l N then h.choose.1 else []
open Classical in
noncomputable def theF (l : List Fc.Pr) (N : Nat) : List Nat := if h : HasF l N then h.choose.2 else []
theorem the_good {l : List Fc.Pr} {N : Nat} (h : HasF l N) : ∃ W R M, Fc.Good l N (theE l N) (theF l N) W R M := by
  have := h.choose_spec
  unfold theE theF
  rw [dif_pos h, dif_pos h]
  exact this
theorem the_eq {l : List Fc.Pr} {N : Nat} {E : List Bool} {F W : List Nat} {R M : List Bool} (h : Fc.Good l N E F W R M) : HasF l N ∧ E = theE l N ∧ F = theF l N := by
  have hf : HasF l N := ⟨(E, F), W, R, M, h⟩
  obtain ⟨W2, R2, M2, h2⟩ := the_good hf
  obtain ⟨a, b, -⟩ := h.s.one h2.s
  exact ⟨hf, a, b⟩
def keyV (c : Int × Int) : Value := .agg #[.int .i64 c.1, .int .i64 c.2]
theorem lawR : WideMaps.KeyLaw Try.prog 206 := deep_law (m := 2) (by omega) (by kernel_rfl) (by kernel_rfl) (by kernel_rfl)
theorem zeroU (w : World) : (zeroValue 130).run Try.prog w = .ok (.int .u64 0) w := by kernel_rfl
theorem keyV_inj (x y : Int × Int) (h : keyV x = keyV y) : x = y := by
  simp only [keyV, Value.agg.injEq, Array.mk.injEq, List.cons.injEq, Value.int.injEq, true_and, and_true] at h
  exact Prod.ext h.1 h.2
theorem restKey (x : Int × Int) (h1 : (Lit.int .i64 x.1).wf = true) (h2 : (Lit.int .i64 x.2).wf = true) : ∃ kl, keyOf Try.prog 206 (keyV x) = some kl := by
  have hk : Try.prog.keyType 206 = true := by kernel_rfl
  have hc : Try.prog.cellsOf 206 = 2 := by kernel_rfl
  have hci : Try.prog.cellsOf 3 = 1 := by kernel_rfl
  obtain ⟨m, hm⟩ : ∃ m, Try.prog.types.size = m + 1 := ⟨Try.prog.types.size - 1, by kernel_rfl⟩
  have hu := Try.underlying206
  have hi := Try.underlying3
  unfold keyOf keyV
  simp only [hu]
  rw [if_pos (by simp [hk, Value.formed, hu, hc]), hm]
  unfold Program.keyLits
  simp only [hu, Value.cells]
  rw [if_pos (by rw [hc]; exact ⟨rfl, by simp⟩)]
  simp [hci, Program.keyLits, hi, h1, h2]
/-- What the map keeps is the mark of its place. -/
def Memo (l : List Fc.Pr) (N : Nat) (D : DataW Unit) : Prop := Maps.Tidy D ∧ ∀ (c : Int × Int) kl, keyOf Try.prog 206 (keyV c) = some kl → Maps.has D kl = true → HasF l N ∧ D.atKey kl (.lit (.int .u64 0)) = .lit (.int .u64 (mark (theE l N) (theF l N) l c.1 c.2 : Nat))
theorem memo_nil {l : List Fc.Pr} {N : Nat} : Memo l N (.map []) := ⟨Maps.tidy_empty, fun _ _ _ h => by cases h⟩
theorem Memo.put {l : List Fc.Pr} {N : Nat} {D : DataW Unit} (h : Memo l N D) (hf : HasF l N) {c : Int × Int} {kl : Lit} (hc : keyOf Try.prog 206 (keyV c) = some kl) : Memo l N (D.put kl (.lit (.int .u64 (mark (theE l N) (theF l N) l c.1 c.2 : Nat)))) := by
  have K := Maps.Keyed.of_law lawR
  refine ⟨h.1.put (K.key hc) _, fun c' kl' hc' hh => ⟨hf, ?_⟩⟩
  by_cases he : c = c'
  · subst he
    rw [hc] at hc'; cases hc'
    rw [Maps.atKey_put_same h.1.isMap (K.key hc)]
  · have hne : kl' ≠ kl := by
      rintro rfl
      exact he (keyV_inj _ _ (K.inj hc hc'))
    rw [Maps.has_put_other hne] at hh
    rw [Maps.atKey_put_other hne]
    exact (h.2 c' kl' hc' hh).2
theorem and_bit62 (M : Nat) (h : M < 18446744073709551616) : bits .and .u64 ((M : Int) / 4611686018427387904) 1 = ((M / 4611686018427387904 % 2 : Nat) : Int) := by
  have := bits_and_u64_nat (M / 4611686018427387904) 1 (by omega) (by decide)
  rw [Nat.and_one_is_mod] at this
  have e : (M : Int) / 4611686018427387904 = ((M / 4611686018427387904 : Nat) : Int) := by omega
  rw [e]
  exact this
theorem clear62 (B : Nat) (h : B < 1073741824) : (4611686018427387904 + B) &&& (18446744073709551615 - 4611686018427387904) = B := by
  have e1 : 4611686018427387904 + B = B ||| 2 ^ 62 := (or_pow (k := 62) (Nat.lt_of_lt_of_le h (by decide))).symm
  have e2 : 18446744073709551615 - 4611686018427387904 = 2 ^ 64 - (2 ^ 62 + 1) := by decide
  rw [e1, e2]
  refine Nat.eq_of_testBit_eq (fun i => ?_)
  rw [Nat.testBit_and, Nat.testBit_or, Nat.testBit_two_pow, Nat.testBit_two_pow_sub_succ (by decide), Nat.testBit_two_pow]
  by_cases hi : i < 30
  · rw [decide_eq_false (show ¬ 62 = i by omega), decide_eq_true (show i < 64 by omega)]; simp
  · have hb : B.testBit i = false := Nat.testBit_lt_two_pow (Nat.lt_of_lt_of_le h (show 1073741824 ≤ 2 ^ i from by
      calc 1073741824 = 2 ^ 30 := by decide
        _ ≤ 2 ^ i := Nat.pow_le_pow_right (by decide) (by omega)))
    rw [hb]
    by_cases h62 : 62 = i
    · rw [decide_eq_true h62]; simp
    · rw [decide_eq_false h62]; simp
theorem andNot62 (B : Nat) (h : B < 1073741824) : bits .andNot .u64 ((4611686018427387904 + B : Nat) : Int) 4611686018427387904 = (B : Int) := by
  have := u64_andNot ((4611686018427387904 + B : Nat) : Int) 4611686018427387904 (by omega) (by omega) (by decide) (by decide)
  rw [this, Int.toNat_natCast]
  exact congrArg _ (clear62 B h)
theorem wrap_pow {k : Nat} (h : k ≤ 30) : IntKind.u64.wrap (2 ^ k) = ((2 ^ k : Nat) : Int) := by
  have hp : 2 ^ k ≤ 1073741824 := by
    calc 2 ^ k ≤ 2 ^ 30 := Nat.pow_le_pow_right (by decide) h
      _ = 1073741824 := by decide
  have e : ((2 : Int) ^ k) = ((2 ^ k : Nat) : Int) := by norm_cast
  have h0 : (0 : Int) ≤ ((2 ^ k : Nat) : Int) := Int.natCast_nonneg _
  have h1 : ((2 ^ k : Nat) : Int) ≤ 1073741824 := Int.ofNat_le.2 hp
  rw [e, IntKind.wrap_u64, Int.emod_eq_of_lt h0 (by omega)]
theorem or_pow64 {B k : Nat} (hB : B < 1073741824) (h : k ≤ 30) : bits .or .u64 (B : Int) ((2 ^ k : Nat) : Int) = ((B ||| 2 ^ k : Nat) : Int) := by
  have hp : 2 ^ k ≤ 1073741824 := by
    calc 2 ^ k ≤ 2 ^ 30 := Nat.pow_le_pow_right (by decide) h
      _ = 1073741824 := by decide
  exact bits_or_u64_nat B (2 ^ k) (by omega) (by omega)
/-- The opener's block. -/
def aOp (O : Nat) (t n : Int) (vp : Value) (gr : Nat) : Asrt := aCel O 187 #[.int .i64 t, .int .i64 n, vp, .map (some gr)]
end It

section
variable {w0 w : World} {μ : List Asrt} {k e t : TypeId} {b n : Nat} {D : DataW Unit} {ops : Array Oper} {o : Oper} {a : Act} {K : Act → World → Prop} {Q : Exit → Act → World → Prop} {EE : Prop}
theorem St.stepLookOkU (hgd : o.guard = none) (m x : Operand) (hop : o.op = Op.lookup t m x true) (KL : WideMaps.KeyLaw Try.prog k) (ht : Try.prog.underlying t = some (.map k e)) (he : Try.prog.underlying e = some (.int .u64)) (hz : ∀ u : World, (zeroValue e).run Try.prog u = .ok (.int .u64 0) u) (h : w.ownsMap Try.prog k (plainElem Try.prog e) b n D) (hm : a.eval m = .map (some b)) (key : Value) {kl : Lit} (hx : a.eval x = key) (hkey : keyOf Try.prog k key = some kl)
    (hK : ∀ c : Int, D.atKey kl (.lit (.int .u64 0)) = .lit (.int .u64 c) → K (a.put o.dst (.tuple #[.int .u64 c, .bool (Maps.has D kl)])) w) : if Region.wanted o (yielded ops a.tmps) = true then Oper.wp Try.prog o a w K Q else EE := by
  have hw : Region.wanted o (yielded ops a.tmps) = true := by simp [Region.wanted, hgd]
  rw [if_pos hw]
  obtain ⟨v, ps, hl, hv⟩ := h.look_ok (Maps.Keyed.of_law KL) ht (hz w) (plainElem_int he (by decide)) hkey
  obtain ⟨c', rfl, hc', _⟩ := plainElem_int_inv he hv
  have h2 := congrArg Prod.fst hc'
  simp only at h2
  unfold Oper.wp
  simp [execOp, hop, hm, hx, hl, Result.andThen]
  exact hK _ h2
end

set_option maxRecDepth 100000 in
set_option maxHeartbeats 4000000 in
theorem itLooks_any (wb : World) (t n : Int) (vp : Value) (l : List Fc.Pr) (hp : Enc.prods.R (fun b => b < wb.heap.size) wb [vp] l) (he : Gr.err t n l = 0) (O gr : Nat) :
    ∀ (w0 w : World) (μ : List Asrt) (x : It.I) (k : Nat) (D : DataW Unit), It.okI t l x → x.2.1 < (It.body l x.1).length → It.Memo l n.toNat D → k < 1000000000 → Below wb.heap.size wb w0 → St w0 w (It.aOp O t n vp gr :: aMap 206 130 gr k D :: μ) →
      Calls Try.prog 109 #[.pointer (some ⟨O, 0, none⟩), It.itV x] w fun e w' => ∃ D' k', e = .returned (.int .u64 (It.look (It.theE l n.toNat) (It.theF l n.toNat) l x : Nat)) ∧ It.Memo l n.toNat D' ∧ k' ≤ k + 1 ∧ It.HasF l n.toNat ∧ St w0 w' (It.aOp O t n vp gr :: aMap 206 130 gr k' D' :: μ) := by
  intro w0 w μ x k D hx hdl hmemo hk hbw hst
  have hz := Gr.err_zero he
  obtain ⟨x1, x2, x3⟩ := x
  obtain ⟨q1, q2, q3, q4, q5, q6⟩ := hx
  simp only at q1 q2 q3 q4 q5 q6 hdl
  have hb8 := (It.body_right he q1 q2).1
  obtain ⟨kl, hkl⟩ := It.restKey (x1, x2) (WalkArith.wf_i64 (by simp only; omega)) (WalkArith.wf_i64 (by simp only; omega))
  have HBODY := Lib.hid (fun W (hW : Below wb.heap.size wb W) => itBody_any t n vp l x1 q1 q2 (by omega) W (fun b => b < W.heap.size) (fun b h => h) (Enc.mono _ hp (fun b hb => Nat.lt_of_lt_of_le hb hW.size) (fun b hb => hW.block b hb)))
  have HBEG := Lib.hid (fun W (hW : Below wb.heap.size wb W) (vb : Value) (hvb : (Enc.two.sl 16).R (fun b => b < W.heap.size) W [vb] (It.rest l x1 x2)) => fcBeg_ok t n vp vb l 4611686018427387904 (It.rest l x1 x2) W (fun b => b < W.heap.size) (fun b h => h) (Enc.mono _ hp (fun b hb => Nat.lt_of_lt_of_le hb hW.size) (fun b hb => hW.block b hb)) hvb he (by decide) true (by
    have hr := It.rest_right he (d := x2) q1 q2
    rw [Bool.and_eq_true, decide_eq_true_iff, List.all_eq_true]
    exact ⟨by omega, hr.2⟩))
  have HFIN : Hid (It.HasF l n.toNat → (Fc.all (It.theE l n.toNat) false (It.rest l x1 x2) = true → It.mark (It.theE l n.toNat) (It.theF l n.toNat) l x1 x2 = 4611686018427387904 + Fc.beg (It.theE l n.toNat) (It.theF l n.toNat) 0 (It.rest l x1 x2)) ∧ (Fc.all (It.theE l n.toNat) false (It.rest l x1 x2) = false → It.mark (It.theE l n.toNat) (It.theF l n.toNat) l x1 x2 = Fc.beg (It.theE l n.toNat) (It.theF l n.toNat) 0 (It.rest l x1 x2)) ∧ Fc.beg (It.theE l n.toNat) (It.theF l n.toNat) 0 (It.rest l x1 x2) < 1073741824) := Lib.hid (fun hf => by
    obtain ⟨W, R, M, hg⟩ := It.the_good hf
    exact ⟨fun ha => (It.mark_yes hg he q1 q2 ha).1, fun ha => (It.mark_no hg he q1 q2 ha).1, It.base_30 hg he q1 q2⟩)
  have hst2 := (hst.alloc #[.int .i64 x1, .int .i64 x2, .int .i64 x3] 72).alloc #[.int .i64 x1, .int .i64 x2] 206
  simp only [World.size_alloc] at hst2
  have HST := Lib.hid hst2
  have HM := Lib.hid hmemo
  have HKL := Lib.hid hkl
  have HBW := Lib.hid hbw
  have HREST : Hid (It.rest l x1 x2 = (It.body l x1).drop (x2.toNat + 1)) := Lib.hid rfl
  have HLOOK : Hid (It.look (It.theE l n.toNat) (It.theF l n.toNat) l (x1, x2, x3) = if Fc.all (It.theE l n.toNat) false (It.rest l x1 x2) = true then Fc.beg (It.theE l n.toNat) (It.theF l n.toNat) 0 (It.rest l x1 x2) ||| 2 ^ x3.toNat else Fc.beg (It.theE l n.toNat) (It.theF l n.toNat) 0 (It.rest l x1 x2)) := Lib.hid rfl
  have hm1 := hmemo.2 (x1, x2) kl hkl
  have hm2 := fun hf => It.Memo.put hmemo hf hkl
  simp only at hm1 hm2
  have HM1 := Lib.hid hm1; have HM2 := Lib.hid hm2
  obtain ⟨x2, rfl⟩ := Int.eq_ofNat_of_zero_le q3
  obtain ⟨x3, rfl⟩ := Int.eq_ofNat_of_zero_le q5
  have hx30 : x3 ≤ 30 := by omega
  unfold It.itV
  have HMKD : Hid (Fc.beg (It.theE l n.toNat) (It.theF l n.toNat) 4611686018427387904 (It.rest l x1 (x2 : Int)) = It.mark (It.theE l n.toNat) (It.theF l n.toNat) l x1 (x2 : Int)) := Lib.hid rfl
  generalize It.mark (It.theE l n.toNat) (It.theF l n.toNat) l x1 (x2 : Int) = MK at *
  clear hst hst2 hmemo hkl hp hm1 hm2 hbw hz he
  generalize It.look (It.theE l n.toNat) (It.theF l n.toNat) l (x1, (x2 : Int), (x3 : Int)) = LK at *
  go_enter Try.func109, Try.ntmps109
  go_wp2_with (fail)
  generalize (w.alloc _).alloc _ = w4 at HST ⊢
  generalize w.heap.size = gx at HST ⊢
  have k0 := (HST.out.nth 0 rfl).celAt (i := 0) (v := .int .i64 x1) rfl
  have k1 := (HST.out.nth 0 rfl).celAt (i := 1) (v := .int .i64 (x2 : Int)) rfl
  have o3 := (HST.out.nth 2 rfl).celAt (i := 3) (v := .map (some gr)) rfl
  have HOWN := Lib.hid ((HST.out.drew.nth 3 rfl).mapOwn)
  refine wp_region_held_drew (S := (fun w' => w'.cell? ⟨O, 3, none⟩ = some (.map (some gr)) ∧ w'.cell? ⟨gx + 1, 0, none⟩ = some (.int .i64 x1) ∧ w'.cell? ⟨gx + 1, 1, none⟩ = some (.int .i64 (x2 : Int)))) (by kernel_rfl) ?_ (fun hHeld => ?_)
  · (try dsimp only); (exact ⟨o3, k0, k1⟩)

  refine wpAnyH_take (i := 0) (v := ?_) rfl (by kernel_rfl) (by kernel_rfl) (by kernel_rfl) (fun _ _ _ h => h) (Or.inl ⟨by rfl, ?_⟩) (by assumption) ?_
  rotate_left; focus (intro w hSw; (try dsimp only at hSw); go_simp; try (with_reducible rfl); done)
  try simp only [List.getElem_toArray, List.getElem_cons_zero, List.getElem_cons_succ, Act.put, List.setIfInBounds_toArray, List.set_cons_zero, List.set_cons_succ]
  refine wpAnyH_take (i := 1) (v := ?_) rfl (by kernel_rfl) (by kernel_rfl) (by kernel_rfl) (fun _ _ _ h => h) (Or.inl ⟨by rfl, ?_⟩) (by assumption) ?_
  rotate_left; focus (intro w hSw; (try dsimp only at hSw); go_simp; try (with_reducible rfl); done)
  try simp only [List.getElem_toArray, List.getElem_cons_zero, List.getElem_cons_succ, Act.put, List.setIfInBounds_toArray, List.set_cons_zero, List.set_cons_succ]
  refine wpAnyH_take (i := 2) (v := ?_) rfl (by kernel_rfl) (by kernel_rfl) (by kernel_rfl) (fun _ _ _ h => h) (Or.inl ⟨by rfl, ?_⟩) (by assumption) ?_
  rotate_left; focus (intro w hSw; (try dsimp only at hSw); go_simp; try (with_reducible rfl); done)
  try simp only [List.getElem_toArray, List.getElem_cons_zero, List.getElem_cons_succ, Act.put, List.setIfInBounds_toArray, List.set_cons_zero, List.set_cons_succ]
  refine wpAnyH_take (i := 3) (v := ?_) rfl (by kernel_rfl) (by kernel_rfl) (by kernel_rfl) (fun _ _ _ h => h) (Or.inl ⟨by rfl, ?_⟩) (by assumption) ?_
  rotate_left; focus (intro w hSw; (try dsimp only at hSw); go_simp; try (with_reducible rfl); done)
  try simp only [List.getElem_toArray, List.getElem_cons_zero, List.getElem_cons_succ, Act.put, List.setIfInBounds_toArray, List.set_cons_zero, List.set_cons_succ]
  refine wpAnyH_take (i := 4) (v := ?_) rfl (by kernel_rfl) (by kernel_rfl) (by kernel_rfl) (fun _ _ _ h => h) (Or.inl ⟨by rfl, ?_⟩) (by assumption) ?_
  rotate_left; focus (intro w hSw; (try dsimp only at hSw); go_simp; try (with_reducible rfl); done)
  try simp only [List.getElem_toArray, List.getElem_cons_zero, List.getElem_cons_succ, Act.put, List.setIfInBounds_toArray, List.set_cons_zero, List.set_cons_succ]
  refine wpAnyH_ready (rs := [5]) (by kernel_rfl) (by simp) ?_
  refine AllReadyH.cons rfl (fun K hK => ?_) AllReadyH.nil
  (refine St.stepLookOkU rfl (.tmp 17) (.tmp 18) rfl It.lawR Try.underlying185 Try.underlying130 It.zeroU HOWN.out rfl (It.keyV (x1, (x2 : Int))) rfl HKL.out ?_; intro c hc; have HC := Lib.hid hc; clear hc)
  refine hK.out _ _ ?_ (fun hHeld => ?_)
  · (try dsimp only); (exact ⟨o3, k0, k1⟩)
  clear hK K
  try simp only [List.getElem_toArray, List.getElem_cons_zero, List.getElem_cons_succ, Act.put, List.setIfInBounds_toArray, List.set_cons_zero, List.set_cons_succ]
  refine wpAnyH_take (i := 6) (v := ?_) rfl (by kernel_rfl) (by kernel_rfl) (by kernel_rfl) (fun _ _ _ h => h) (Or.inl ⟨by rfl, ?_⟩) (by assumption) ?_
  rotate_left; focus (intro w hSw; (try dsimp only at hSw); go_simp; try (with_reducible rfl); done)
  try simp only [List.getElem_toArray, List.getElem_cons_zero, List.getElem_cons_succ, Act.put, List.setIfInBounds_toArray, List.set_cons_zero, List.set_cons_succ]
  refine wpAnyH_take (i := 7) (v := ?_) rfl (by kernel_rfl) (by kernel_rfl) (by kernel_rfl) (fun _ _ _ h => h) (Or.inl ⟨by rfl, ?_⟩) (by assumption) ?_
  rotate_left; focus (intro w hSw; (try dsimp only at hSw); go_simp; try (with_reducible rfl); done)
  try simp only [List.getElem_toArray, List.getElem_cons_zero, List.getElem_cons_succ, Act.put, List.setIfInBounds_toArray, List.set_cons_zero, List.set_cons_succ]
  refine wpAnyH_take (i := 8) (v := ?_) rfl (by kernel_rfl) (by kernel_rfl) (by kernel_rfl) (fun _ _ _ h => h) (Or.inl ⟨by rfl, ?_⟩) (by assumption) ?_
  rotate_left; focus (intro w hSw; (try dsimp only at hSw); go_simp; try (with_reducible rfl); done)
  try simp only [List.getElem_toArray, List.getElem_cons_zero, List.getElem_cons_succ, Act.put, List.setIfInBounds_toArray, List.set_cons_zero, List.set_cons_succ]
  refine wpAnyH_take (i := 9) (v := ?_) rfl (by kernel_rfl) (by kernel_rfl) (by kernel_rfl) (fun _ _ _ h => h) (Or.inl ⟨by rfl, ?_⟩) (by assumption) ?_
  rotate_left; focus (intro w hSw; (try dsimp only at hSw); go_simp; try (with_reducible rfl); done)
  try simp only [List.getElem_toArray, List.getElem_cons_zero, List.getElem_cons_succ, Act.put, List.setIfInBounds_toArray, List.set_cons_zero, List.set_cons_succ]
  refine wpAnyH_take (i := 10) (v := ?_) rfl (by kernel_rfl) (by kernel_rfl) (by kernel_rfl) (fun _ _ _ h => h) (Or.inl ⟨by rfl, ?_⟩) (by assumption) ?_
  rotate_left; focus (intro w hSw; (try dsimp only at hSw); go_simp; try (with_reducible rfl); done)
  try simp only [List.getElem_toArray, List.getElem_cons_zero, List.getElem_cons_succ, Act.put, List.setIfInBounds_toArray, List.set_cons_zero, List.set_cons_succ]
  refine wpAnyH_done (by kernel_rfl) ?_ _
  have HSTD := Lib.hid HST.out.drew
  clear k0 k1 o3 HOWN HST
  generalize w4.drew = w5 at HSTD ⊢
  by_cases hh : Maps.has D kl = true
  · obtain ⟨hf, hat⟩ := HM1.out hh
    obtain rfl : c = (MK : Int) := by have h9 := HC.out.symm.trans hat; simp only [DataW.lit.injEq, Lit.int.injEq, true_and] at h9; exact h9
    have HF := Lib.hid hf
    have HMEMO := HM
    have hk' : k ≤ k + 1 := Nat.le_succ k
    have HSTT := Lib.hid (HSTD.out.pick (ρ := It.aOp O t n vp gr :: aMap 206 130 gr k D :: aCel gx 72 #[.int .i64 x1, .int .i64 (x2 : Int), .int .i64 (x3 : Int)] :: μ) [2, 3, 1] 4 rfl rfl)
    clear hat hf HC HM HSTD HBODY HBEG HM1 HM2
    generalize w5 = w9 at HSTT ⊢
    obtain ⟨i0, i1, i2⟩ := HSTT.out.at3 2 rfl
    have hfin := HFIN.out HF.out
    have hlk := HLOOK.out
    generalize Fc.beg (It.theE l n.toNat) (It.theF l n.toNat) 0 (It.rest l x1 (x2 : Int)) = B at *
    by_cases ha : Fc.all (It.theE l n.toNat) false (It.rest l x1 (x2 : Int)) = true
    · have hmk := hfin.1 ha
      have hb30 := hfin.2.2
      rw [if_pos ha, Int.toNat_natCast] at hlk
      have hq1 : bits .and .u64 ((MK : Int) / 4611686018427387904) 1 = 1 := by
        rw [It.and_bit62 MK (by omega), show MK / 4611686018427387904 % 2 = 1 by omega]; rfl
      have hq2 := It.andNot62 B hb30
      rw [← hmk] at hq2
      have hq3 := It.wrap_pow hx30
      have hq4 := It.or_pow64 hb30 hx30
      rw [← hlk] at hq4
      generalize ((2 ^ x3 : Nat) : Int) = P3 at hq3 hq4
      clear hfin hlk hmk ha
      go_wp2_with (fail)
      go_ret
      exact ⟨_, _, rfl, HMEMO.out, hk', HF.out, HSTT.out.pick [0, 1] 3 rfl rfl⟩
    · have ha' := ha
      rw [Bool.not_eq_true] at ha'
      have hmk := hfin.2.1 ha'
      have hb30 := hfin.2.2
      rw [if_neg ha] at hlk
      have hq1 : bits .and .u64 ((MK : Int) / 4611686018427387904) 1 = 0 := by
        rw [It.and_bit62 MK (by omega), show MK / 4611686018427387904 % 2 = 0 by omega]; rfl
      obtain rfl : MK = LK := by omega
      clear hfin hlk ha ha' hmk
      go_wp2_with (fail)
      go_ret
      exact ⟨_, _, rfl, HMEMO.out, hk', HF.out, HSTT.out.pick [0, 1] 3 rfl rfl⟩
  · rw [Bool.not_eq_true] at hh
    have HBODY2 := Lib.hid (HBODY.out w5.drew (HBW.out.trans (HSTD.out.drew.bel.mono HBW.out.size)))
    have g0 := (HSTD.out.nth 2 rfl).celAt (i := 0) (v := .int .i64 t) rfl
    have g1 := (HSTD.out.nth 2 rfl).celAt (i := 1) (v := .int .i64 n) rfl
    have g2 := (HSTD.out.nth 2 rfl).celAt (i := 2) (v := vp) rfl
    obtain ⟨i0, i1, i2⟩ := HSTD.out.at3 1 rfl
    have hx28 : (x2 : Int) ≤ 8 := by omega
    have HDL := Lib.hid hdl
    have hwx : IntKind.i64.wrap ((x2 : Int) + 1) = (x2 : Int) + 1 := IntWalk.i64_in _ (by omega)
    go_wp2_with (fail)
    refine wp_region_held_drew (S := (fun w' => w'.cell? ⟨O, 0, none⟩ = some (.int .i64 t) ∧ w'.cell? ⟨O, 1, none⟩ = some (.int .i64 n) ∧ w'.cell? ⟨O, 2, none⟩ = some vp ∧ w'.cell? ⟨gx, 0, none⟩ = some (.int .i64 x1) ∧ w'.cell? ⟨gx, 1, none⟩ = some (.int .i64 (x2 : Int)))) (by kernel_rfl) ?_ (fun hHeld => ?_)
    · (try dsimp only); (first | exact ⟨g0, g1, g2, i0, i1⟩ | (refine ⟨?_, ?_, ?_, ?_, ?_⟩ <;> first | exact bkeep HB6.out g0 | exact bkeep HB6.out g1 | exact bkeep HB6.out g2 | exact bkeep HB6.out i0 | exact bkeep HB6.out i1) | (refine ⟨?_, ?_, ?_, ?_, ?_⟩ <;> first | exact bkeep HB7.out g0 | exact bkeep HB7.out g1 | exact bkeep HB7.out g2 | exact bkeep HB7.out i0 | exact bkeep HB7.out i1))

    refine wpAnyH_take (i := 0) (v := ?_) rfl (by kernel_rfl) (by kernel_rfl) (by kernel_rfl) (fun _ _ _ h => h) (Or.inl ⟨by rfl, ?_⟩) (by assumption) ?_
    rotate_left; focus (intro w hSw; (try dsimp only at hSw); go_simp; try (with_reducible rfl); done)
    try simp only [List.getElem_toArray, List.getElem_cons_zero, List.getElem_cons_succ, Act.put, List.setIfInBounds_toArray, List.set_cons_zero, List.set_cons_succ]
    refine wpAnyH_take (i := 1) (v := ?_) rfl (by kernel_rfl) (by kernel_rfl) (by kernel_rfl) (fun _ _ _ h => h) (Or.inl ⟨by rfl, ?_⟩) (by assumption) ?_
    rotate_left; focus (intro w hSw; (try dsimp only at hSw); go_simp; try (with_reducible rfl); done)
    try simp only [List.getElem_toArray, List.getElem_cons_zero, List.getElem_cons_succ, Act.put, List.setIfInBounds_toArray, List.set_cons_zero, List.set_cons_succ]
    refine wpAnyH_take (i := 2) (v := ?_) rfl (by kernel_rfl) (by kernel_rfl) (by kernel_rfl) (fun _ _ _ h => h) (Or.inl ⟨by rfl, ?_⟩) (by assumption) ?_
    rotate_left; focus (intro w hSw; (try dsimp only at hSw); go_simp; try (with_reducible rfl); done)
    try simp only [List.getElem_toArray, List.getElem_cons_zero, List.getElem_cons_succ, Act.put, List.setIfInBounds_toArray, List.set_cons_zero, List.set_cons_succ]
    refine wpAnyH_take (i := 3) (v := ?_) rfl (by kernel_rfl) (by kernel_rfl) (by kernel_rfl) (fun _ _ _ h => h) (Or.inl ⟨by rfl, ?_⟩) (by assumption) ?_
    rotate_left; focus (intro w hSw; (try dsimp only at hSw); go_simp; try (with_reducible rfl); done)
    try simp only [List.getElem_toArray, List.getElem_cons_zero, List.getElem_cons_succ, Act.put, List.setIfInBounds_toArray, List.set_cons_zero, List.set_cons_succ]
    refine wpAnyH_take (i := 4) (v := ?_) rfl (by kernel_rfl) (by kernel_rfl) (by kernel_rfl) (fun _ _ _ h => h) (Or.inl ⟨by rfl, ?_⟩) (by assumption) ?_
    rotate_left; focus (intro w hSw; (try dsimp only at hSw); go_simp; try (with_reducible rfl); done)
    try simp only [List.getElem_toArray, List.getElem_cons_zero, List.getElem_cons_succ, Act.put, List.setIfInBounds_toArray, List.set_cons_zero, List.set_cons_succ]
    refine wpAnyH_take (i := 5) (v := ?_) rfl (by kernel_rfl) (by kernel_rfl) (by kernel_rfl) (fun _ _ _ h => h) (Or.inl ⟨by rfl, ?_⟩) (by assumption) ?_
    rotate_left; focus (intro w hSw; (try dsimp only at hSw); go_simp; try (with_reducible rfl); done)
    try simp only [List.getElem_toArray, List.getElem_cons_zero, List.getElem_cons_succ, Act.put, List.setIfInBounds_toArray, List.set_cons_zero, List.set_cons_succ]
    refine wpAnyH_take (i := 6) (v := ?_) rfl (by kernel_rfl) (by kernel_rfl) (by kernel_rfl) (fun _ _ _ h => h) (Or.inl ⟨by rfl, ?_⟩) (by assumption) ?_
    rotate_left; focus (intro w hSw; (try dsimp only at hSw); go_simp; try (with_reducible rfl); done)
    try simp only [List.getElem_toArray, List.getElem_cons_zero, List.getElem_cons_succ, Act.put, List.setIfInBounds_toArray, List.set_cons_zero, List.set_cons_succ]
    refine wpAnyH_take (i := 7) (v := ?_) rfl (by kernel_rfl) (by kernel_rfl) (by kernel_rfl) (fun _ _ _ h => h) (Or.inl ⟨by rfl, ?_⟩) (by assumption) ?_
    rotate_left; focus (intro w hSw; (try dsimp only at hSw); go_simp; try (with_reducible rfl); done)
    try simp only [List.getElem_toArray, List.getElem_cons_zero, List.getElem_cons_succ, Act.put, List.setIfInBounds_toArray, List.set_cons_zero, List.set_cons_succ]
    refine wpAnyH_take (i := 8) (v := ?_) rfl (by kernel_rfl) (by kernel_rfl) (by kernel_rfl) (fun _ _ _ h => h) (Or.inl ⟨by rfl, ?_⟩) (by assumption) ?_
    rotate_left; focus (intro w hSw; (try dsimp only at hSw); go_simp; try (with_reducible rfl); done)
    try simp only [List.getElem_toArray, List.getElem_cons_zero, List.getElem_cons_succ, Act.put, List.setIfInBounds_toArray, List.set_cons_zero, List.set_cons_succ]
    refine wpAnyH_take (i := 9) (v := ?_) rfl (by kernel_rfl) (by kernel_rfl) (by kernel_rfl) (fun _ _ _ h => h) (Or.inl ⟨by rfl, ?_⟩) (by assumption) ?_
    rotate_left; focus (intro w hSw; (try dsimp only at hSw); go_simp; try (with_reducible rfl); done)
    try simp only [List.getElem_toArray, List.getElem_cons_zero, List.getElem_cons_succ, Act.put, List.setIfInBounds_toArray, List.set_cons_zero, List.set_cons_succ]
    refine wpAnyH_take (i := 11) (v := ?_) rfl (by kernel_rfl) (by kernel_rfl) (by kernel_rfl) (fun _ _ _ h => h) (Or.inl ⟨by rfl, ?_⟩) (by assumption) ?_
    rotate_left; focus (intro w hSw; (try dsimp only at hSw); go_simp; try (with_reducible rfl); done)
    try simp only [List.getElem_toArray, List.getElem_cons_zero, List.getElem_cons_succ, Act.put, List.setIfInBounds_toArray, List.set_cons_zero, List.set_cons_succ]
    refine wpAnyH_take (i := 12) (v := ?_) rfl (by kernel_rfl) (by kernel_rfl) (by kernel_rfl) (fun _ _ _ h => h) (Or.inl ⟨by rfl, ?_⟩) (by assumption) ?_
    rotate_left; focus (intro w hSw; (try dsimp only at hSw); go_simp; try (with_reducible rfl); done)
    try simp only [List.getElem_toArray, List.getElem_cons_zero, List.getElem_cons_succ, Act.put, List.setIfInBounds_toArray, List.set_cons_zero, List.set_cons_succ]
    refine wpAnyH_take (i := 13) (v := ?_) rfl (by kernel_rfl) (by kernel_rfl) (by kernel_rfl) (fun _ _ _ h => h) (Or.inl ⟨by rfl, ?_⟩) (by assumption) ?_
    rotate_left; focus (intro w hSw; (try dsimp only at hSw); go_simp; try (with_reducible rfl); done)
    try simp only [List.getElem_toArray, List.getElem_cons_zero, List.getElem_cons_succ, Act.put, List.setIfInBounds_toArray, List.set_cons_zero, List.set_cons_succ]
    refine wpAnyH_ready (rs := [10]) (by kernel_rfl) (by simp) ?_
    refine AllReadyH.cons rfl (fun K hK => ?_) AllReadyH.nil
    go_simp
    (go_at_call 107; refine HBODY2.out.mono ?_; rintro e w6 ⟨ab, cb, rfl, hbe, hb6⟩; have HB6 := Lib.hid (((Below.refl _ _).drew : RowKit.Below w5.heap.size w5 w5.drew).trans hb6); have HBE := Lib.hid hbe; have HB6a := Lib.hid hb6; have hsl : (Enc.two.sl 16).R (fun b => b < w6.heap.size) w6 [Go.sliced ab (x2 + 1) (It.body l x1).length cb 2] (It.rest l x1 (x2 : Int)) := (by have := Enc.sliced hbe (x2 + 1) (It.body l x1).length (by omega) (Nat.le_refl _); rw [List.take_length] at this; rw [HREST.out, Int.toNat_natCast]; exact this); have hbc : (It.body l x1).length ≤ cb := (by obtain ⟨_, _, _, _, hq, hle, _⟩ := hbe; simp only [List.cons.injEq, Value.slice.injEq, and_true, true_and] at hq; omega); have hs1 : ∀ W, (Instr.slice 110 (.slice ab (It.body l x1).length cb) (some (.int .i64 ((x2 : Int) + 1))) none none).run Try.prog W = .ok (Go.sliced ab (x2 + 1) (It.body l x1).length cb 2) W := (fun W => by have hsz : (sizeOf (Try.prog.elem 110)).run Try.prog W = .ok 2 W := (by kernel_rfl); have := run_slice_l (P := Try.prog) W 110 ab (It.body l x1).length cb (by kernel_rfl) .i64 (x2 + 1) (by omega) (by omega); rw [hsz] at this; exact this); have HBG := Lib.hid (HBEG.out w6 (HBW.out.trans ((HSTD.out.drew.call hb6).bel.mono HBW.out.size)) _ hsl); have HST6 := Lib.hid (HSTD.out.drew.call hb6); clear hbe hb6 hsl hbc; generalize Go.sliced ab (x2 + 1) (It.body l x1).length cb 2 = V1 at hs1 HBG)
    refine hK.out _ _ ?_ (fun hHeld => ?_)
    · (try dsimp only); (first | exact ⟨g0, g1, g2, i0, i1⟩ | (refine ⟨?_, ?_, ?_, ?_, ?_⟩ <;> first | exact bkeep HB6.out g0 | exact bkeep HB6.out g1 | exact bkeep HB6.out g2 | exact bkeep HB6.out i0 | exact bkeep HB6.out i1) | (refine ⟨?_, ?_, ?_, ?_, ?_⟩ <;> first | exact bkeep HB7.out g0 | exact bkeep HB7.out g1 | exact bkeep HB7.out g2 | exact bkeep HB7.out i0 | exact bkeep HB7.out i1))
    clear hK K
    try simp only [List.getElem_toArray, List.getElem_cons_zero, List.getElem_cons_succ, Act.put, List.setIfInBounds_toArray, List.set_cons_zero, List.set_cons_succ]
    refine wpAnyH_take (i := 14) (v := ?_) rfl (by kernel_rfl) (by kernel_rfl) (by kernel_rfl) (fun _ _ _ h => h) (Or.inl ⟨by rfl, ?_⟩) (by assumption) ?_
    rotate_left; focus (intro w hSw; (try dsimp only at hSw); go_simp; try (with_reducible rfl); done)
    try simp only [List.getElem_toArray, List.getElem_cons_zero, List.getElem_cons_succ, Act.put, List.setIfInBounds_toArray, List.set_cons_zero, List.set_cons_succ]
    refine wpAnyH_ready (rs := [15]) (by kernel_rfl) (by simp) ?_
    refine AllReadyH.cons rfl (fun K hK => ?_) AllReadyH.nil
    go_simp
    (go_at_call 125; refine HBG.out.mono ?_; rintro e w7 ⟨hyes, -, hb7⟩; obtain ⟨E1, F1, W1, R1, M1, rfl, hgood⟩ := hyes rfl; obtain ⟨hf, rfl, rfl⟩ := It.the_eq hgood; have HF := Lib.hid hf; have HB7 := Lib.hid (HB6.out.trans (hb7.mono HB6.out.size)); have HST7 := Lib.hid (HST6.out.call hb7); rw [HMKD.out]; clear hb7 hgood hf)
    refine hK.out _ _ ?_ (fun hHeld => ?_)
    · (try dsimp only); (first | exact ⟨g0, g1, g2, i0, i1⟩ | (refine ⟨?_, ?_, ?_, ?_, ?_⟩ <;> first | exact bkeep HB6.out g0 | exact bkeep HB6.out g1 | exact bkeep HB6.out g2 | exact bkeep HB6.out i0 | exact bkeep HB6.out i1) | (refine ⟨?_, ?_, ?_, ?_, ?_⟩ <;> first | exact bkeep HB7.out g0 | exact bkeep HB7.out g1 | exact bkeep HB7.out g2 | exact bkeep HB7.out i0 | exact bkeep HB7.out i1))
    clear hK K
    try simp only [List.getElem_toArray, List.getElem_cons_zero, List.getElem_cons_succ, Act.put, List.setIfInBounds_toArray, List.set_cons_zero, List.set_cons_succ]
    refine wpAnyH_take (i := 16) (v := ?_) rfl (by kernel_rfl) (by kernel_rfl) (by kernel_rfl) (fun _ _ _ h => h) (Or.inl ⟨by rfl, ?_⟩) (by assumption) ?_
    rotate_left; focus (intro w hSw; (try dsimp only at hSw); go_simp; try (with_reducible rfl); done)
    try simp only [List.getElem_toArray, List.getElem_cons_zero, List.getElem_cons_succ, Act.put, List.setIfInBounds_toArray, List.set_cons_zero, List.set_cons_succ]
    refine wpAnyH_take (i := 17) (v := ?_) rfl (by kernel_rfl) (by kernel_rfl) (by kernel_rfl) (fun _ _ _ h => h) (Or.inl ⟨by rfl, ?_⟩) (by assumption) ?_
    rotate_left; focus (intro w hSw; (try dsimp only at hSw); go_simp; try (with_reducible rfl); done)
    try simp only [List.getElem_toArray, List.getElem_cons_zero, List.getElem_cons_succ, Act.put, List.setIfInBounds_toArray, List.set_cons_zero, List.set_cons_succ]
    refine wpAnyH_take (i := 18) (v := ?_) rfl (by kernel_rfl) (by kernel_rfl) (by kernel_rfl) (fun _ _ _ h => h) (Or.inl ⟨by rfl, ?_⟩) (by assumption) ?_
    rotate_left; focus (intro w hSw; (try dsimp only at hSw); go_simp; try (with_reducible rfl); done)
    try simp only [List.getElem_toArray, List.getElem_cons_zero, List.getElem_cons_succ, Act.put, List.setIfInBounds_toArray, List.set_cons_zero, List.set_cons_succ]
    refine wpAnyH_take (i := 19) (v := ?_) rfl (by kernel_rfl) (by kernel_rfl) (by kernel_rfl) (fun _ _ _ h => h) (Or.inl ⟨by rfl, ?_⟩) (by assumption) ?_
    rotate_left; focus (intro w hSw; (try dsimp only at hSw); go_simp; try (with_reducible rfl); done)
    try simp only [List.getElem_toArray, List.getElem_cons_zero, List.getElem_cons_succ, Act.put, List.setIfInBounds_toArray, List.set_cons_zero, List.set_cons_succ]
    refine wpAnyH_done (by kernel_rfl) ?_ _
    clear g0 g1 g2 i0 i1 i2 HB6a HBE HST6 HBG hs1
    have hmk1 : MK < 4611686019501129728 := by
      have h := HFIN.out HF.out
      cases ha : Fc.all (It.theE l n.toNat) false (It.rest l x1 (x2 : Int))
      · have := h.2.1 ha; have := h.2.2; omega
      · have := h.1 ha; have := h.2.2; omega
    have hwf := Lib.hid (show (Lit.int .u64 (MK : Int)).wf = true by simp [Lit.wf, IntKind.min, IntKind.max, IntKind.signed, IntKind.bits]; omega)
    have HSTP := Lib.hid (HST7.out.pick (ρ := aMap 206 130 gr k D :: aCel (gx + 1) 206 #[.int .i64 x1, .int .i64 (x2 : Int)] :: It.aOp O t n vp gr :: aCel gx 72 #[.int .i64 x1, .int .i64 (x2 : Int), .int .i64 (x3 : Int)] :: μ) [3, 0, 2, 1] 4 rfl rfl)
    have k0 := (HSTP.out.nth 1 rfl).celAt (i := 0) (v := .int .i64 x1) rfl
    have k1 := (HSTP.out.nth 1 rfl).celAt (i := 1) (v := .int .i64 (x2 : Int)) rfl
    have o3 := (HSTP.out.nth 2 rfl).celAt (i := 3) (v := .map (some gr)) rfl
    go_wp2_with (fail)
    refine wp_region_held_drew (S := (fun w' => w'.cell? ⟨O, 3, none⟩ = some (.map (some gr)) ∧ w'.cell? ⟨gx + 1, 0, none⟩ = some (.int .i64 x1) ∧ w'.cell? ⟨gx + 1, 1, none⟩ = some (.int .i64 (x2 : Int)))) (by kernel_rfl) ?_ (fun hHeld => ?_)
    · (try dsimp only); (first | exact ⟨o3, k0, k1⟩ | exact ⟨o3b, k0b, k1b⟩)

    refine wpAnyH_take (i := 0) (v := ?_) rfl (by kernel_rfl) (by kernel_rfl) (by kernel_rfl) (fun _ _ _ h => h) (Or.inl ⟨by rfl, ?_⟩) (by assumption) ?_
    rotate_left; focus (intro w hSw; (try dsimp only at hSw); go_simp; try (with_reducible rfl); done)
    try simp only [List.getElem_toArray, List.getElem_cons_zero, List.getElem_cons_succ, Act.put, List.setIfInBounds_toArray, List.set_cons_zero, List.set_cons_succ]
    refine wpAnyH_take (i := 1) (v := ?_) rfl (by kernel_rfl) (by kernel_rfl) (by kernel_rfl) (fun _ _ _ h => h) (Or.inl ⟨by rfl, ?_⟩) (by assumption) ?_
    rotate_left; focus (intro w hSw; (try dsimp only at hSw); go_simp; try (with_reducible rfl); done)
    try simp only [List.getElem_toArray, List.getElem_cons_zero, List.getElem_cons_succ, Act.put, List.setIfInBounds_toArray, List.set_cons_zero, List.set_cons_succ]
    refine wpAnyH_take (i := 2) (v := ?_) rfl (by kernel_rfl) (by kernel_rfl) (by kernel_rfl) (fun _ _ _ h => h) (Or.inl ⟨by rfl, ?_⟩) (by assumption) ?_
    rotate_left; focus (intro w hSw; (try dsimp only at hSw); go_simp; try (with_reducible rfl); done)
    try simp only [List.getElem_toArray, List.getElem_cons_zero, List.getElem_cons_succ, Act.put, List.setIfInBounds_toArray, List.set_cons_zero, List.set_cons_succ]
    refine wpAnyH_take (i := 3) (v := ?_) rfl (by kernel_rfl) (by kernel_rfl) (by kernel_rfl) (fun _ _ _ h => h) (Or.inl ⟨by rfl, ?_⟩) (by assumption) ?_
    rotate_left; focus (intro w hSw; (try dsimp only at hSw); go_simp; try (with_reducible rfl); done)
    try simp only [List.getElem_toArray, List.getElem_cons_zero, List.getElem_cons_succ, Act.put, List.setIfInBounds_toArray, List.set_cons_zero, List.set_cons_succ]
    refine wpAnyH_take (i := 4) (v := ?_) rfl (by kernel_rfl) (by kernel_rfl) (by kernel_rfl) (fun _ _ _ h => h) (Or.inl ⟨by rfl, ?_⟩) (by assumption) ?_
    rotate_left; focus (intro w hSw; (try dsimp only at hSw); go_simp; try (with_reducible rfl); done)
    try simp only [List.getElem_toArray, List.getElem_cons_zero, List.getElem_cons_succ, Act.put, List.setIfInBounds_toArray, List.set_cons_zero, List.set_cons_succ]
    refine wpAnyH_take (i := 5) (v := ?_) rfl (by kernel_rfl) (by kernel_rfl) (by kernel_rfl) (fun _ _ _ h => h) (Or.inl ⟨by rfl, ?_⟩) (by assumption) ?_
    rotate_left; focus (intro w hSw; (try dsimp only at hSw); go_simp; try (with_reducible rfl); done)
    try simp only [List.getElem_toArray, List.getElem_cons_zero, List.getElem_cons_succ, Act.put, List.setIfInBounds_toArray, List.set_cons_zero, List.set_cons_succ]
    refine wpAnyH_ready (rs := [6]) (by kernel_rfl) (by simp) ?_
    refine AllReadyH.cons rfl (fun K hK => ?_) AllReadyH.nil
    (refine St.stepPut rfl (.tmp 46) (.tmp 47) (.tmp 48) rfl It.lawR Try.underlying185 HSTP.out.drew (by unfold maxLen; omega) rfl (It.keyV (x1, (x2 : Int))) (.int .u64 (MK : Int)) rfl rfl HKL.out (.lit (.int .u64 (MK : Int))) [] (plainElem_int Try.underlying130 hwf.out) ?_; intro w8 hst8; have HST8 := Lib.hid hst8; have k0b := (hst8.nth 1 rfl).celAt (i := 0) (v := .int .i64 x1) rfl; have k1b := (hst8.nth 1 rfl).celAt (i := 1) (v := .int .i64 (x2 : Int)) rfl; have o3b := (hst8.nth 2 rfl).celAt (i := 3) (v := .map (some gr)) rfl; clear hst8)
    refine hK.out _ _ ?_ (fun hHeld => ?_)
    · (try dsimp only); (first | exact ⟨o3, k0, k1⟩ | exact ⟨o3b, k0b, k1b⟩)
    clear hK K
    try simp only [List.getElem_toArray, List.getElem_cons_zero, List.getElem_cons_succ, Act.put, List.setIfInBounds_toArray, List.set_cons_zero, List.set_cons_succ]
    refine wpAnyH_done (by kernel_rfl) ?_ _
    have HMEMO := Lib.hid (HM2.out HF.out)
    have hk' : k + 1 ≤ k + 1 := Nat.le_refl _
    have HSTT := Lib.hid (HST8.out.pick (ρ := It.aOp O t n vp gr :: aMap 206 130 gr (k + 1) (D.put kl (.lit (.int .u64 (MK : Int)))) :: aCel gx 72 #[.int .i64 x1, .int .i64 (x2 : Int), .int .i64 (x3 : Int)] :: μ) [2, 0, 3] 4 rfl rfl)
    clear k0 k1 o3 k0b k1b o3b HST8 HSTP HST7 HSTD HBODY HBEG HBODY2 HM1 HM2 HM hmk1
    generalize w8 = w9 at HSTT ⊢
    obtain ⟨i0, i1, i2⟩ := HSTT.out.at3 2 rfl
    have hfin := HFIN.out HF.out
    have hlk := HLOOK.out
    generalize Fc.beg (It.theE l n.toNat) (It.theF l n.toNat) 0 (It.rest l x1 (x2 : Int)) = B at *
    by_cases ha : Fc.all (It.theE l n.toNat) false (It.rest l x1 (x2 : Int)) = true
    · have hmk := hfin.1 ha
      have hb30 := hfin.2.2
      rw [if_pos ha, Int.toNat_natCast] at hlk
      have hq1 : bits .and .u64 ((MK : Int) / 4611686018427387904) 1 = 1 := by
        rw [It.and_bit62 MK (by omega), show MK / 4611686018427387904 % 2 = 1 by omega]; rfl
      have hq2 := It.andNot62 B hb30
      rw [← hmk] at hq2
      have hq3 := It.wrap_pow hx30
      have hq4 := It.or_pow64 hb30 hx30
      rw [← hlk] at hq4
      generalize ((2 ^ x3 : Nat) : Int) = P3 at hq3 hq4
      clear hfin hlk hmk ha
      go_wp2_with (fail)
      go_ret
      exact ⟨_, _, rfl, HMEMO.out, hk', HF.out, HSTT.out.pick [0, 1] 3 rfl rfl⟩
    · have ha' := ha
      rw [Bool.not_eq_true] at ha'
      have hmk := hfin.2.1 ha'
      have hb30 := hfin.2.2
      rw [if_neg ha] at hlk
      have hq1 : bits .and .u64 ((MK : Int) / 4611686018427387904) 1 = 0 := by
        rw [It.and_bit62 MK (by omega), show MK / 4611686018427387904 % 2 = 0 by omega]; rfl
      obtain rfl : MK = LK := by omega
      clear hfin hlk ha ha' hmk
      go_wp2_with (fail)
      go_ret
      exact ⟨_, _, rfl, HMEMO.out, hk', HF.out, HSTT.out.pick [0, 1] 3 rfl rfl⟩
end Go.Proofs.Ytkhjncbjdldpbaa

/-
  The closures of AllFacts of the reference: Empty's, Makes'.
-/
namespace Go.Proofs.Ytkhjncbjdldpbaa
set_option linter.unusedVariables false
set_option linter.unusedSimpArgs false
open Go.ChangeShapes Go.WideShapes Go.ChangeAt Go.RowKit

set_option maxRecDepth 100000 in
set_option maxHeartbeats 1600000 in
theorem fcC1_any (w0 w : World) (B n cap gE : Nat) (h : Int) (vb vF vW vR vM : Value) (body : List (Int × Int)) (E : List Bool) (μ : List Asrt) (F : Nat → Prop) (hn : n = E.length) (hb : (Enc.two.sl 16).R F w0 [vb] body) (hx : ∀ x ∈ body, (x.1 = 1 ∧ 0 ≤ x.2) ∨ (x.1 = 2 ∧ 0 ≤ x.2 ∧ x.2 < E.length))
    (hst : St w0 w (Fc.aB (.slice (some ⟨gE, 0, none⟩) n cap) E :: aCel B 68 #[.slice (some ⟨gE, 0, none⟩) n cap, vF, vW, vR, vM] :: μ)) :
    Calls Try.prog 76 #[.agg #[.int .i64 h, vb], .pointer (some ⟨B, 0, none⟩)] w fun e w' => e = .returned (.bool (Fc.all E false body)) ∧ St w0 w' (Fc.aB (.slice (some ⟨gE, 0, none⟩) n cap) E :: aCel B 68 #[.slice (some ⟨gE, 0, none⟩) n cap, vF, vW, vR, vM] :: μ) := by
  unfold Fc.aB at hst ⊢
  obtain ⟨ab, bb, ob, cb, rfl, hl, b3, b4⟩ := slTwo hb
  have B3 := Lib.hid b3; have B4 := Lib.hid b4; have HX := Lib.hid hx; have HN := Lib.hid hn
  have hll : (body.length : Int) ≤ 140737488355328 := by omega
  obtain ⟨R, hR⟩ : ∃ R, Fc.all E false body = R := ⟨_, rfl⟩
  rw [hR]
  have HR : Hid (Fc.all E false (body.drop 0) = R) := Lib.hid hR
  have hst1 := (hst.alloc #[.int .i64 h, .slice ab body.length cb] 112).pick (ρ := aOwn 4 1 (.slice (some ⟨gE, 0, none⟩) n cap) (E.map Value.bool) :: aCel B 68 #[.slice (some ⟨gE, 0, none⟩) n cap, vF, vW, vR, vM] :: aCel w.heap.size 112 #[.int .i64 h, .slice ab body.length cb] :: μ) [1, 2, 0] 3 rfl rfl
  have HST := Lib.hid hst1
  clear hb b3 b4 hx hR hst hst1 hl hn
  go_enter Try.func76, Try.ntmps76
  go_wp2
  go_loopg [4] body.length (fun gk i wr => ∃ k : Nat, k ≤ body.length ∧ gk = body.length - k ∧ i = .int .i64 k ∧ St w0 wr (aOwn 4 1 (.slice (some ⟨gE, 0, none⟩) n cap) (E.map Value.bool) :: aCel B 68 #[.slice (some ⟨gE, 0, none⟩) n cap, vF, vW, vR, vM] :: aCel w.heap.size 112 #[.int .i64 h, .slice ab body.length cb] :: μ) ∧ Hid (Fc.all E false (body.drop k) = R))
  case atStart => exact ⟨0, by omega, by omega, rfl, HST.out, HR⟩
  case round =>
    clear HST HR
    obtain ⟨k, hk, hgk, rfl, hst, HR⟩ := hrel
    have HGK := Lib.hid hgk
    clear hgk
    obtain ⟨p0, p1⟩ := hst.at2 2 rfl
    by_cases hlt : k < body.length
    · obtain ⟨rfl, _, _⟩ := B3.out (by omega)
      obtain ⟨s1, s2, -, -⟩ := B4.out k hlt
      have hd := Fc.drop_at hlt (0, 0)
      have hxx := HX.out (body.getD k (0, 0)) (by rw [show body.getD k (0, 0) = body[k] by simp [List.getD, List.getElem?_eq_getElem hlt]]; exact List.getElem_mem hlt)
      have hr := HR.out
      rw [hd] at hr
      generalize body.getD k (0, 0) = x at *
      obtain ⟨x1, x2⟩ := x
      simp only at s1 s2 hxx
      have c1 := bkeep hst.bel s1
      have c2 := bkeep hst.bel s2
      have hlt2 : (k : Int) < body.length := by omega
      have x0 := (hst.nth 1 rfl).celAt (i := 0) rfl
      rcases hxx with ⟨rfl, h0⟩ | ⟨rfl, h0, h1⟩
      · rw [Fc.all_no (.inl ⟨rfl, rfl⟩)] at hr
        subst hr
        have HST := Lib.hid hst
        clear s1 s2 hd hst HR
        go_wp2
        go_quiet (fail)
        go_wp2
        go_ret
        exact ⟨rfl, (HST.out.drewN _).pick [0, 1] 3 rfl rfl⟩
      · obtain ⟨q, rfl⟩ := Int.eq_ofNat_of_zero_le h0
        have hq : q < E.length := by omega
        have e1 := (hst.cellOwn (f := Value.bool) (fun _ => rfl) q hq false).1
        have hqn : (q : Int) < n := by have := HN.out; omega
        have HST := Lib.hid hst
        cases hv : E.getD q false
        · rw [hv] at e1
          rw [Fc.all_no (.inr ⟨rfl, by rw [Int.toNat_natCast]; exact hv⟩)] at hr
          subst hr
          clear s1 s2 hd hst HR hv hq
          go_wp2
          go_quiet (fail)
          go_wp2
          go_ret
          exact ⟨rfl, (HST.out.drewN _).pick [0, 1] 3 rfl rfl⟩
        · rw [hv] at e1
          rw [Fc.all_go (by rw [Int.toNat_natCast, hv]; simp)] at hr
          have HR2 := Lib.hid hr
          clear s1 s2 hd hst HR hr hv hq
          go_wp2
          go_quiet (fail)
          go_wp2
          go_roundg (body.length - (k + 1))
          case measure => have := HGK.out; omega
          case rel => exact ⟨k + 1, by omega, rfl, by go_num, HST.out.drewN _, HR2⟩
    · obtain rfl : k = body.length := by omega
      have hr := HR.out
      rw [List.drop_length] at hr
      have hr2 : true = R := hr
      subst hr2
      have HST := Lib.hid hst
      clear hst HR hr
      go_wp2
      go_ret
      exact ⟨rfl, HST.out.pick [0, 1] 3 rfl rfl⟩

set_option maxRecDepth 100000 in
set_option maxHeartbeats 1600000 in
theorem fcC2_any (w0 w : World) (B n cap gM : Nat) (h : Int) (vb vE vF vW vR : Value) (body : List (Int × Int)) (M : List Bool) (μ : List Asrt) (F : Nat → Prop) (hn : n = M.length) (hb : (Enc.two.sl 16).R F w0 [vb] body) (hx : ∀ x ∈ body, (x.1 = 1 ∧ 0 ≤ x.2) ∨ (x.1 = 2 ∧ 0 ≤ x.2 ∧ x.2 < M.length))
    (hst : St w0 w (Fc.aB (.slice (some ⟨gM, 0, none⟩) n cap) M :: aCel B 68 #[vE, vF, vW, vR, .slice (some ⟨gM, 0, none⟩) n cap] :: μ)) :
    Calls Try.prog 77 #[.agg #[.int .i64 h, vb], .pointer (some ⟨B, 0, none⟩)] w fun e w' => e = .returned (.bool (Fc.all M true body)) ∧ St w0 w' (Fc.aB (.slice (some ⟨gM, 0, none⟩) n cap) M :: aCel B 68 #[vE, vF, vW, vR, .slice (some ⟨gM, 0, none⟩) n cap] :: μ) := by
  unfold Fc.aB at hst ⊢
  obtain ⟨ab, bb, ob, cb, rfl, hl, b3, b4⟩ := slTwo hb
  have B3 := Lib.hid b3; have B4 := Lib.hid b4; have HX := Lib.hid hx; have HN := Lib.hid hn
  have hll : (body.length : Int) ≤ 140737488355328 := by omega
  obtain ⟨R, hR⟩ : ∃ R, Fc.all M true body = R := ⟨_, rfl⟩
  rw [hR]
  have HR : Hid (Fc.all M true (body.drop 0) = R) := Lib.hid hR
  have hst1 := (hst.alloc #[.int .i64 h, .slice ab body.length cb] 112).pick (ρ := aOwn 4 1 (.slice (some ⟨gM, 0, none⟩) n cap) (M.map Value.bool) :: aCel B 68 #[vE, vF, vW, vR, .slice (some ⟨gM, 0, none⟩) n cap] :: aCel w.heap.size 112 #[.int .i64 h, .slice ab body.length cb] :: μ) [1, 2, 0] 3 rfl rfl
  have HST := Lib.hid hst1
  clear hb b3 b4 hx hR hst hst1 hl hn
  go_enter Try.func77, Try.ntmps77
  go_wp2
  go_loopg [4] body.length (fun gk i wr => ∃ k : Nat, k ≤ body.length ∧ gk = body.length - k ∧ i = .int .i64 k ∧ St w0 wr (aOwn 4 1 (.slice (some ⟨gM, 0, none⟩) n cap) (M.map Value.bool) :: aCel B 68 #[vE, vF, vW, vR, .slice (some ⟨gM, 0, none⟩) n cap] :: aCel w.heap.size 112 #[.int .i64 h, .slice ab body.length cb] :: μ) ∧ Hid (Fc.all M true (body.drop k) = R))
  case atStart => exact ⟨0, by omega, by omega, rfl, HST.out, HR⟩
  case round =>
    clear HST HR
    obtain ⟨k, hk, hgk, rfl, hst, HR⟩ := hrel
    have HGK := Lib.hid hgk
    clear hgk
    obtain ⟨p0, p1⟩ := hst.at2 2 rfl
    by_cases hlt : k < body.length
    · obtain ⟨rfl, _, _⟩ := B3.out (by omega)
      obtain ⟨s1, s2, -, -⟩ := B4.out k hlt
      have hd := Fc.drop_at hlt (0, 0)
      have hxx := HX.out (body.getD k (0, 0)) (by rw [show body.getD k (0, 0) = body[k] by simp [List.getD, List.getElem?_eq_getElem hlt]]; exact List.getElem_mem hlt)
      have hr := HR.out
      rw [hd] at hr
      generalize body.getD k (0, 0) = x at *
      obtain ⟨x1, x2⟩ := x
      simp only at s1 s2 hxx
      have c1 := bkeep hst.bel s1
      have c2 := bkeep hst.bel s2
      have hlt2 : (k : Int) < body.length := by omega
      have x0 := (hst.nth 1 rfl).celAt (i := 4) rfl
      rcases hxx with ⟨rfl, h0⟩ | ⟨rfl, h0, h1⟩
      · rw [Fc.all_go (by simp)] at hr
        have HR2 := Lib.hid hr
        have HST := Lib.hid hst
        clear s1 s2 hd hst HR hr
        go_wp2
        go_quiet (fail)
        go_wp2
        go_roundg (body.length - (k + 1))
        case measure => have := HGK.out; omega
        case rel => exact ⟨k + 1, by omega, rfl, by go_num, HST.out.drewN _, HR2⟩
      · obtain ⟨q, rfl⟩ := Int.eq_ofNat_of_zero_le h0
        have hq : q < M.length := by omega
        have e1 := (hst.cellOwn (f := Value.bool) (fun _ => rfl) q hq false).1
        have hqn : (q : Int) < n := by have := HN.out; omega
        have HST := Lib.hid hst
        cases hv : M.getD q false
        · rw [hv] at e1
          rw [Fc.all_no (.inr ⟨rfl, by rw [Int.toNat_natCast]; exact hv⟩)] at hr
          subst hr
          clear s1 s2 hd hst HR hv hq
          go_wp2
          go_quiet (fail)
          go_wp2
          go_ret
          exact ⟨rfl, (HST.out.drewN _).pick [0, 1] 3 rfl rfl⟩
        · rw [hv] at e1
          rw [Fc.all_go (by rw [Int.toNat_natCast, hv]; simp)] at hr
          have HR2 := Lib.hid hr
          clear s1 s2 hd hst HR hr hv hq
          go_wp2
          go_quiet (fail)
          go_wp2
          go_roundg (body.length - (k + 1))
          case measure => have := HGK.out; omega
          case rel => exact ⟨k + 1, by omega, rfl, by go_num, HST.out.drewN _, HR2⟩
    · obtain rfl : k = body.length := by omega
      have hr := HR.out
      rw [List.drop_length] at hr
      have hr2 : true = R := hr
      subst hr2
      have HST := Lib.hid hst
      clear hst HR hr
      go_wp2
      go_ret
      exact ⟨rfl, HST.out.pick [0, 1] 3 rfl rfl⟩
end Go.Proofs.Ytkhjncbjdldpbaa

/-
  Begin of the reference: what some symbols begin with.
-/
namespace Go.Proofs.Ytkhjncbjdldpbaa
set_option linter.unusedVariables false
set_option linter.unusedSimpArgs false
open Go.ChangeShapes Go.WideShapes Go.ChangeAt Go.RowKit

set_option maxRecDepth 100000 in
set_option maxHeartbeats 1600000 in
theorem fcRBeg_any (w0 : World) (gE nE cE gF nF cF : Nat) (vW vR vM : Value) (E : List Bool) (Fs : List Nat) (behind : Nat) (F : Nat → Prop) (hnE : nE = E.length) (hnF : nF = Fs.length) (hEF : Fs.length = E.length) (hF : ∀ i, Fs.getD i 0 < 18446744073709551616) (hbh : behind < 18446744073709551616) :
    ∀ (body : List (Int × Int)) (vb : Value) (w : World) (μ : List Asrt), (Enc.two.sl 16).R F w0 [vb] body → (∀ x ∈ body, (x.1 = 1 ∧ 0 ≤ x.2 ∧ x.2 < 64) ∨ (x.1 = 2 ∧ 0 ≤ x.2 ∧ x.2 < E.length)) → St w0 w (Fc.aB (.slice (some ⟨gE, 0, none⟩) nE cE) E :: Fc.aU (.slice (some ⟨gF, 0, none⟩) nF cF) Fs :: μ) →
    Calls Try.prog 80 #[.agg #[.slice (some ⟨gE, 0, none⟩) nE cE, .slice (some ⟨gF, 0, none⟩) nF cF, vW, vR, vM], vb, .int .u64 (behind : Int)] w fun e w' => e = .returned (.int .u64 ((Fc.beg E Fs behind body : Nat) : Int)) ∧ St w0 w' (Fc.aB (.slice (some ⟨gE, 0, none⟩) nE cE) E :: Fc.aU (.slice (some ⟨gF, 0, none⟩) nF cF) Fs :: μ) := by
  have HNE := Lib.hid hnE; have HNF := Lib.hid hnF; have HEF := Lib.hid hEF; have HF := Lib.hid hF; have HBH := Lib.hid hbh
  clear hnE hnF hEF hF hbh
  intro body
  induction body with
  | nil =>
    intro vb w μ hb _ hst
    obtain ⟨ab, bb, ob, cb, rfl, -, -, -⟩ := slTwo hb
    have HST := Lib.hid (hst.skip (.cells #[.slice (some ⟨gE, 0, none⟩) nE cE, .slice (some ⟨gF, 0, none⟩) nF cF, vW, vR, vM] 68))
    clear hst hb
    go_enter Try.func80, Try.ntmps80
    go_wp2
    go_ret
    exact ⟨rfl, HST.out⟩
  | cons x r ih =>
    intro vb w μ hb hx hst
    have hb2 := hb
    obtain ⟨ab, bb, ob, cb, rfl, hl, b3, b4⟩ := slTwo hb2
    have hxx := hx x (.head _)
    have hxr := fun y hy => hx y (.tail _ hy)
    have hpos : 0 < (x :: r).length := by simp
    obtain ⟨rfl, -, -⟩ := b3 hpos
    obtain ⟨s1, s2, -, -⟩ := b4 0 hpos
    have hgd : (x :: r).getD 0 (0, 0) = x := rfl
    rw [hgd] at s1 s2
    simp only [Nat.zero_mul, Nat.add_zero] at s1 s2
    have hbig := hst.alloc #[.slice (some ⟨gE, 0, none⟩) nE cE, .slice (some ⟨gF, 0, none⟩) nF cF, vW, vR, vM] 68
    have s1 := bkeep hst.bel s1
    have s2 := bkeep hst.bel s2
    have hlb := World.block_lt_of_cell? _ _ s1
    have hsz := hst.bel.size
    have hll : ((x :: r).length : Int) ≤ 140737488355328 := by omega
    obtain ⟨x1, x2⟩ := x
    have hbn : (Enc.two.sl 16).R F w0 [Go.sliced (some ⟨bb, ob, none⟩) 1 ((x1, x2) :: r).length cb 2] r := by
      have := Enc.sliced hb 1 ((x1, x2) :: r).length (by simp) (Nat.le_refl _)
      rw [List.take_length] at this
      exact this
    have hbc : ((x1, x2) :: r).length ≤ cb := by
      obtain ⟨_, _, _, _, hq, hle, _⟩ := hb
      simp only [List.cons.injEq, Value.slice.injEq, and_true, true_and] at hq
      omega
    have hs1 : ∀ W, (Instr.slice 110 (.slice (some ⟨bb, ob, none⟩) ((x1, x2) :: r).length cb) (some (.int .i64 1)) none none).run Try.prog W = .ok (Go.sliced (some ⟨bb, ob, none⟩) 1 ((x1, x2) :: r).length cb 2) W := fun W => by
      have hsz : (sizeOf (Try.prog.elem 110)).run Try.prog W = .ok 2 W := by kernel_rfl
      have := run_slice_l (P := Try.prog) W 110 (some ⟨bb, ob, none⟩) ((x1, x2) :: r).length cb (by kernel_rfl) .i64 1 (by decide) (by simp; omega)
      rw [hsz] at this
      exact this
    generalize Go.sliced (some ⟨bb, ob, none⟩) 1 ((x1, x2) :: r).length cb 2 = V1 at hs1 hbn
    have IH := Lib.hid fun W μ hs => ih V1 W μ hbn hxr hs
    obtain ⟨R, hR⟩ : ∃ R, Fc.beg E Fs behind ((x1, x2) :: r) = R := ⟨_, rfl⟩
    rw [hR]
    generalize ((x1, x2) :: r).length = ln at *
    have HST := Lib.hid (hbig.alloc #[.int .i64 x1, .int .i64 x2] 61)
    simp only [World.size_alloc] at HST
    have hln : (ln : Int) ≠ 0 := by omega
    have hz : ((ln : Int) == 0) = false := by rw [beq_eq_false_iff_ne]; exact hln
    have hln0 : (0 : Int) < ln := by omega
    simp only at hxx
    have HXR := Lib.hid hxr
    clear hb b3 b4 hx hxr hst hbig ih hbn hbc hgd hln hl
    rcases hxx with ⟨rfl, h0, h64⟩ | ⟨rfl, h0, h1⟩
    · rw [Fc.beg_term rfl] at hR
      obtain ⟨q, rfl⟩ := Int.eq_ofNat_of_zero_le h0
      have hpow : 2 ^ q < 18446744073709551616 := Nat.pow_lt_pow_right (a := 2) (m := q) (n := 64) (by decide) (by omega)
      have hsh : IntKind.u64.wrap ((2 : Int) ^ q) = ((2 ^ q : Nat) : Int) := by
        have e : ((2 : Int) ^ q) = ((2 ^ q : Nat) : Int) := by simp
        rw [e, IntKind.wrap_u64]
        exact Int.emod_eq_of_lt (Int.natCast_nonneg _) (Int.ofNat_lt.2 hpow)
      rw [Int.toNat_natCast] at hR
      rw [hR] at hsh
      have HSH := Lib.hid hsh
      clear hR hpow hsh IH hs1
      go_enter Try.func80, Try.ntmps80
      go_wp2
      go_ret
      exact ⟨congrArg (fun x => Ending.returned (.int .u64 x)) HSH.out, HST.out.drop.drop⟩
    · obtain ⟨q, rfl⟩ := Int.eq_ofNat_of_zero_le h0
      have hq : q < E.length := by omega
      have hqF : q < Fs.length := by have := HEF.out; omega
      have hqn : (q : Int) < nE := by have := HNE.out; omega
      have hqn2 : (q : Int) < nF := by have := HNF.out; omega
      have h21 : ¬ ((2 : Int) = 1) := by decide
      obtain ⟨x0, x1, x2, x3, x4⟩ := HST.out.at5 1 rfl
      obtain ⟨y0, y1⟩ := HST.out.at2 0 rfl
      have e1 := ((show St w0 _ (aOwn 4 1 (.slice (some ⟨gE, 0, none⟩) nE cE) (E.map Value.bool) :: _) from HST.out.nth 2 rfl).cellOwn (f := Value.bool) (fun _ => rfl) q hq false).1
      have f1 := ((show St w0 _ (aOwn 130 1 (.slice (some ⟨gF, 0, none⟩) nF cF) (Fs.map Fc.uV) :: _) from HST.out.nth 3 rfl).cellOwn (f := Fc.uV) (fun _ => rfl) q hqF 0).1
      cases hv : E.getD q false
      · rw [hv] at e1
        rw [Fc.beg_stop h21 (by rw [Int.toNat_natCast]; exact hv), Int.toNat_natCast] at hR
        have HR2 := Lib.hid hR
        generalize Fs.getD q 0 = y at *
        replace f1 : World.cell? _ ⟨gF, q, none⟩ = some (.int .u64 (y : Int)) := f1
        clear hv hq hqF h21 hR IH hs1
        go_enter Try.func80, Try.ntmps80
        go_wp2
        go_ret
        exact ⟨congrArg (fun x : Nat => Ending.returned (.int .u64 (x : Int))) HR2.out, HST.out.drop.drop⟩
      · rw [hv] at e1
        rw [Fc.beg_on h21 (by rw [Int.toNat_natCast]; exact hv), Int.toNat_natCast] at hR
        have HR2 := Lib.hid hR
        have hlt := HF.out q
        have hbl := Fc.beg_lt (k := 64) (E := E) (b := behind) (body := r) (fun i => HF.out i) HBH.out (fun z hz h1 => by rcases HXR.out z hz with ⟨-, a, b⟩ | ⟨a, -⟩ <;> omega)
        have HOR := Lib.hid (bits_or_u64_nat (Fs.getD q 0) (Fc.beg E Fs behind r) hlt hbl)
        have HFQ := Lib.hid fun (W : World) (μ' : List Asrt) (hs : St w0 W (Fc.aB (.slice (some ⟨gE, 0, none⟩) nE cE) E :: Fc.aU (.slice (some ⟨gF, 0, none⟩) nF cF) Fs :: μ')) => (show W.cell? ⟨gF, q, none⟩ = some (.int .u64 ((Fs.getD q 0 : Nat) : Int)) from
          ((show St w0 W (aOwn 130 1 (.slice (some ⟨gF, 0, none⟩) nF cF) (Fs.map Fc.uV) :: _) from hs.nth 1 rfl).cellOwn (f := Fc.uV) (fun _ => rfl) q hqF 0).1)
        generalize Fs.getD q 0 = y at *
        replace f1 : World.cell? _ ⟨gF, q, none⟩ = some (.int .u64 (y : Int)) := f1
        clear hv hq hqF h21 hR hlt hbl
        go_enter Try.func80, Try.ntmps80
        go_wp2
        have HSTD := Lib.hid (HST.out.drew.pick (ρ := Fc.aB (.slice (some ⟨gE, 0, none⟩) nE cE) E :: Fc.aU (.slice (some ⟨gF, 0, none⟩) nF cF) Fs :: aCel (w.heap.size + 1) 61 #[.int .i64 2, .int .i64 q] :: aCel w.heap.size 68 #[.slice (some ⟨gE, 0, none⟩) nE cE, .slice (some ⟨gF, 0, none⟩) nF cF, vW, vR, vM] :: μ) [2, 3, 0, 1] 4 rfl rfl)
        refine wp_region_held_drew (S := (fun w' => w'.cell? ⟨w.heap.size, 0, none⟩ = some (.slice (some ⟨gE, 0, none⟩) nE cE) ∧ w'.cell? ⟨w.heap.size, 1, none⟩ = some (.slice (some ⟨gF, 0, none⟩) nF cF) ∧ w'.cell? ⟨w.heap.size, 2, none⟩ = some vW ∧ w'.cell? ⟨w.heap.size, 3, none⟩ = some vR ∧ w'.cell? ⟨w.heap.size, 4, none⟩ = some vM ∧ w'.cell? ⟨w.heap.size + 1, 1, none⟩ = some (.int .i64 q) ∧ w'.cell? ⟨gF, q, none⟩ = some (.int .u64 y))) (by kernel_rfl) ?_ (fun hHeld => ?_)
        · (try dsimp only); (first | exact ⟨x0, x1, x2, x3, x4, y1, f1⟩ | go_keep)
        refine wpAnyH_take (i := 0) (v := ?_) rfl (by kernel_rfl) (by kernel_rfl) (by kernel_rfl) (fun _ _ _ h => h) (Or.inl ⟨by rfl, ?_⟩) (by assumption) ?_
        rotate_left; focus (intro w hSw; (try dsimp only at hSw); go_simp; try (with_reducible rfl); done)
        try simp only [List.getElem_toArray, List.getElem_cons_zero, List.getElem_cons_succ, Act.put, List.setIfInBounds_toArray, List.set_cons_zero, List.set_cons_succ]
        refine wpAnyH_take (i := 1) (v := ?_) rfl (by kernel_rfl) (by kernel_rfl) (by kernel_rfl) (fun _ _ _ h => h) (Or.inl ⟨by rfl, ?_⟩) (by assumption) ?_
        rotate_left; focus (intro w hSw; (try dsimp only at hSw); go_simp; try (with_reducible rfl); done)
        try simp only [List.getElem_toArray, List.getElem_cons_zero, List.getElem_cons_succ, Act.put, List.setIfInBounds_toArray, List.set_cons_zero, List.set_cons_succ]
        refine wpAnyH_take (i := 2) (v := ?_) rfl (by kernel_rfl) (by kernel_rfl) (by kernel_rfl) (fun _ _ _ h => h) (Or.inl ⟨by rfl, ?_⟩) (by assumption) ?_
        rotate_left; focus (intro w hSw; (try dsimp only at hSw); go_simp; try (with_reducible rfl); done)
        try simp only [List.getElem_toArray, List.getElem_cons_zero, List.getElem_cons_succ, Act.put, List.setIfInBounds_toArray, List.set_cons_zero, List.set_cons_succ]
        refine wpAnyH_take (i := 3) (v := ?_) rfl (by kernel_rfl) (by kernel_rfl) (by kernel_rfl) (fun _ _ _ h => h) (Or.inl ⟨by rfl, ?_⟩) (by assumption) ?_
        rotate_left; focus (intro w hSw; (try dsimp only at hSw); go_simp; try (with_reducible rfl); done)
        try simp only [List.getElem_toArray, List.getElem_cons_zero, List.getElem_cons_succ, Act.put, List.setIfInBounds_toArray, List.set_cons_zero, List.set_cons_succ]
        refine wpAnyH_take (i := 4) (v := ?_) rfl (by kernel_rfl) (by kernel_rfl) (by kernel_rfl) (fun _ _ _ h => h) (Or.inl ⟨by rfl, ?_⟩) (by assumption) ?_
        rotate_left; focus (intro w hSw; (try dsimp only at hSw); go_simp; try (with_reducible rfl); done)
        try simp only [List.getElem_toArray, List.getElem_cons_zero, List.getElem_cons_succ, Act.put, List.setIfInBounds_toArray, List.set_cons_zero, List.set_cons_succ]
        refine wpAnyH_take (i := 5) (v := ?_) rfl (by kernel_rfl) (by kernel_rfl) (by kernel_rfl) (fun _ _ _ h => h) (Or.inl ⟨by rfl, ?_⟩) (by assumption) ?_
        rotate_left; focus (intro w hSw; (try dsimp only at hSw); go_simp; try (with_reducible rfl); done)
        try simp only [List.getElem_toArray, List.getElem_cons_zero, List.getElem_cons_succ, Act.put, List.setIfInBounds_toArray, List.set_cons_zero, List.set_cons_succ]
        refine wpAnyH_take (i := 6) (v := ?_) rfl (by kernel_rfl) (by kernel_rfl) (by kernel_rfl) (fun _ _ _ h => h) (Or.inl ⟨by rfl, ?_⟩) (by assumption) ?_
        rotate_left; focus (intro w hSw; (try dsimp only at hSw); go_simp; try (with_reducible rfl); done)
        try simp only [List.getElem_toArray, List.getElem_cons_zero, List.getElem_cons_succ, Act.put, List.setIfInBounds_toArray, List.set_cons_zero, List.set_cons_succ]
        refine wpAnyH_take (i := 7) (v := ?_) rfl (by kernel_rfl) (by kernel_rfl) (by kernel_rfl) (fun _ _ _ h => h) (Or.inl ⟨by rfl, ?_⟩) (by assumption) ?_
        rotate_left; focus (intro w hSw; (try dsimp only at hSw); go_simp; try (with_reducible rfl); done)
        try simp only [List.getElem_toArray, List.getElem_cons_zero, List.getElem_cons_succ, Act.put, List.setIfInBounds_toArray, List.set_cons_zero, List.set_cons_succ]
        refine wpAnyH_take (i := 8) (v := ?_) rfl (by kernel_rfl) (by kernel_rfl) (by kernel_rfl) (fun _ _ _ h => h) (Or.inl ⟨by rfl, ?_⟩) (by assumption) ?_
        rotate_left; focus (intro w hSw; (try dsimp only at hSw); go_simp; try (with_reducible rfl); done)
        try simp only [List.getElem_toArray, List.getElem_cons_zero, List.getElem_cons_succ, Act.put, List.setIfInBounds_toArray, List.set_cons_zero, List.set_cons_succ]
        refine wpAnyH_take (i := 9) (v := ?_) rfl (by kernel_rfl) (by kernel_rfl) (by kernel_rfl) (fun _ _ _ h => h) (Or.inl ⟨by rfl, ?_⟩) (by assumption) ?_
        rotate_left; focus (intro w hSw; (try dsimp only at hSw); go_simp; try (with_reducible rfl); done)
        try simp only [List.getElem_toArray, List.getElem_cons_zero, List.getElem_cons_succ, Act.put, List.setIfInBounds_toArray, List.set_cons_zero, List.set_cons_succ]
        refine wpAnyH_ready (rs := [10]) (by kernel_rfl) (by simp) ?_
        refine AllReadyH.cons rfl (fun K hK => ?_) AllReadyH.nil
        go_simp
        (go_at_call 80; refine (IH.out _ _ HSTD.out).mono ?_; rintro e w8 ⟨rfl, hst8⟩; have HSTD := Lib.hid hst8; obtain ⟨x0, x1, x2, x3, x4⟩ := hst8.at5 3 rfl; obtain ⟨y0, y1⟩ := hst8.at2 2 rfl; have f1 := HFQ.out _ _ hst8; clear hst8)
        refine hK.out _ _ ?_ (fun hHeld => ?_)
        · (try dsimp only); (first | exact ⟨x0, x1, x2, x3, x4, y1, f1⟩ | go_keep)
        clear hK K
        try simp only [List.getElem_toArray, List.getElem_cons_zero, List.getElem_cons_succ, Act.put, List.setIfInBounds_toArray, List.set_cons_zero, List.set_cons_succ]
        refine wpAnyH_take (i := 11) (v := ?_) rfl (by kernel_rfl) (by kernel_rfl) (by kernel_rfl) (fun _ _ _ h => h) (Or.inl ⟨by rfl, ?_⟩) (by assumption) ?_
        rotate_left; focus (intro w hSw; (try dsimp only at hSw); go_simp; try (with_reducible rfl); done)
        try simp only [List.getElem_toArray, List.getElem_cons_zero, List.getElem_cons_succ, Act.put, List.setIfInBounds_toArray, List.set_cons_zero, List.set_cons_succ]
        refine wpAnyH_take (i := 12) (v := ?_) rfl (by kernel_rfl) (by kernel_rfl) (by kernel_rfl) (fun _ _ _ h => h) (Or.inl ⟨by rfl, ?_⟩) (by assumption) ?_
        rotate_left; focus (intro w hSw; (try dsimp only at hSw); go_simp; try (with_reducible rfl); done)
        try simp only [List.getElem_toArray, List.getElem_cons_zero, List.getElem_cons_succ, Act.put, List.setIfInBounds_toArray, List.set_cons_zero, List.set_cons_succ]
        refine wpAnyH_done (by kernel_rfl) ?_ _
        clear x0 x1 x2 x3 x4 y0 y1 f1 e1 IH HFQ hs1 HST
        go_wp2
        go_ret
        exact ⟨congrArg (fun x => Ending.returned (.int .u64 x)) (HOR.out.trans (by rw [HR2.out])), HSTD.out.pick [0, 1] 4 rfl rfl⟩
end Go.Proofs.Ytkhjncbjdldpbaa

/-
  closed of package items: all that can be come to, each once, rising.
-/
namespace Go.Proofs.Ytkhjncbjdldpbaa
set_option linter.unusedVariables false
set_option linter.unusedSimpArgs false
open Go.ChangeShapes Go.WideShapes Go.ChangeAt Go.RowKit

namespace It
/-- Items as they lie, no bounds. -/
def Enc.itm : Enc I where
  size := 3
  R := fun _ _ cs x => cs = (itV x).cells.toList
  len := fun h => by rw [h]; rfl
  mono := fun h _ _ => h
theorem itmAddr {F : Nat → Prop} {W : World} {a : Option Addr} {c : Nat} {L : List I} (h : (Enc.itm.sl 24).R F W [.slice a L.length c] L) (h0 : 0 < L.length) : ∃ b off, a = some ⟨b, off, none⟩ := by
  obtain ⟨ao, b, off, cap, e, -, h1, -⟩ := Enc.slN z h
  simp only [Value.slice.injEq] at e
  obtain ⟨rfl, -⟩ := e
  exact ⟨b, off, (h1 h0).1⟩
theorem itmAt {F : Nat → Prop} {W : World} {b off c : Nat} {L : List I} (h : (Enc.itm.sl 24).R F W [.slice (some ⟨b, off, none⟩) L.length c] L) {i : Nat} (hi : i < L.length) :
    W.cell? ⟨b, off + i * 3, none⟩ = some (.int .i64 (L.getD i z).1) ∧ W.cell? ⟨b, off + i * 3 + 1, none⟩ = some (.int .i64 (L.getD i z).2.1) ∧ W.cell? ⟨b, off + i * 3 + 2, none⟩ = some (.int .i64 (L.getD i z).2.2) := by
  obtain ⟨ao, b', off', cap, e, -, h1, h2⟩ := Enc.slN z h
  simp only [Value.slice.injEq] at e
  obtain ⟨rfl, -⟩ := e
  have h3 := (h1 (by omega)).1
  simp only [Option.some.injEq, Addr.mk.injEq, and_true] at h3
  obtain ⟨rfl, rfl⟩ := h3
  obtain ⟨cs, -, g, hR⟩ := h2 i hi
  have hR' : cs = (itV (L.getD i z)).cells.toList := hR
  subst hR'
  exact ⟨g 0 (by decide), g 1 (by decide), g 2 (by decide)⟩
theorem bodyAddr {w0 w : World} {μ : List Asrt} {fp : List Nat} {a : Option Addr} {c : Nat} {b : List (Int × Int)} (h : St w0 w (aBody w0 fp a c b :: μ)) (h0 : 0 < b.length) : ∃ bb ob, a = some ⟨bb, ob, none⟩ := by
  obtain ⟨ao, b', off, cap, e, -, h1, -⟩ := Enc.slN (0, 0) h.rd
  simp only [Value.slice.injEq] at e
  obtain ⟨rfl, -⟩ := e
  exact ⟨b', off, (h1 h0).1⟩
theorem bodyAt {w0 w : World} {μ : List Asrt} {fp : List Nat} {bb ob c : Nat} {b : List (Int × Int)} (h : St w0 w (aBody w0 fp (some ⟨bb, ob, none⟩) c b :: μ)) {d : Nat} (hd : d < b.length) :
    w.cell? ⟨bb, ob + d * 2, none⟩ = some (.int .i64 (b.getD d (0, 0)).1) ∧ w.cell? ⟨bb, ob + d * 2 + 1, none⟩ = some (.int .i64 (b.getD d (0, 0)).2) := by
  obtain ⟨ao, b', off, cap, e, -, h1, h2⟩ := Enc.slN (0, 0) h.rd
  simp only [Value.slice.injEq] at e
  obtain ⟨rfl, -⟩ := e
  have h3 := (h1 (by omega)).1
  simp only [Option.some.injEq, Addr.mk.injEq, and_true] at h3
  obtain ⟨rfl, rfl⟩ := h3
  obtain ⟨cs, -, g, hR⟩ := h2 d hd
  have hR' := (two_cells hR).1
  subst hR'
  exact ⟨g 0 (by decide), g 1 (by decide)⟩
theorem ownAt3 {w0 w : World} {μ : List Asrt} {g cap n : Nat} {out : List I} (h : St w0 w (aOwn 72 3 (.slice (some ⟨g, 0, none⟩) n cap) (out.map itV) :: μ)) {i : Nat} (hi : i < out.length) :
    w.cell? ⟨g, i * 3, none⟩ = some (.int .i64 (out.getD i z).1) ∧ w.cell? ⟨g, i * 3 + 1, none⟩ = some (.int .i64 (out.getD i z).2.1) ∧ w.cell? ⟨g, i * 3 + 2, none⟩ = some (.int .i64 (out.getD i z).2.2) :=
  ⟨h.cellsN (f := itV) (fun _ => rfl) i hi z 0 (by decide) _ rfl, h.cellsN (f := itV) (fun _ => rfl) i hi z 1 (by decide) _ rfl, h.cellsN (f := itV) (fun _ => rfl) i hi z 2 (by decide) _ rfl⟩
theorem fits_ok {t n : Int} {l : List Fc.Pr} {x : I} (he : Gr.err t n l = 0) (h : okI t l x) : fits x := by
  have hz := Gr.err_zero he
  have hb := (body_right he h.1 h.2.1).1
  obtain ⟨a, b, c, d, e, f⟩ := h
  exact ⟨WalkArith.wf_i64 (by omega), WalkArith.wf_i64 (by omega), WalkArith.wf_i64 (by omega)⟩
theorem ownLen {w0 w : World} {μ : List Asrt} {e : TypeId} {a : Option Addr} {n c : Nat} {out : List I} (h : St w0 w (aOwn e 3 (.slice a n c) (out.map itV) :: μ)) : n = out.length ∧ (0 < out.length → ∃ g, a = some ⟨g, 0, none⟩) ∧ (out.length = 0 → (a = none ∧ c = 0) ∨ ∃ g, a = some ⟨g, 0, none⟩) := by
  have ho : Own w 0 e 3 (.slice a n c) (out.map itV) := h.ok _ (.head _)
  rcases ho.2 with ⟨h1, h2⟩ | ⟨g, cap, cur, h1, -⟩
  · simp only [Value.slice.injEq] at h1
    rw [List.length_map] at h2
    exact ⟨by omega, fun h => by omega, fun _ => .inl ⟨h1.1, h1.2.2⟩⟩
  · simp only [Value.slice.injEq] at h1
    rw [List.length_map] at h1
    exact ⟨h1.2.1, fun _ => ⟨g, h1.1⟩, fun _ => .inr ⟨g, h1.1⟩⟩
/-- What closed leaves. -/
def RetClosed (t n : Int) (vp : Value) (l : List Fc.Pr) (O gr : Nat) (w0 : World) (μ : List Asrt) (L : List I) (k : Nat) (e : Ending) (w' : World) : Prop :=
  ∃ (a' : Option Addr) (n' c' : Nat) (out : List I) (D' : DataW Unit) (k' : Nat), e = .returned (.slice a' n' c') ∧ out.Pairwise (fun x y => lt x y = true) ∧ (∀ x, x ∈ out ↔ Rch (nexts t.toNat (theE l n.toNat) (theF l n.toNat) l) L x) ∧ Memo l n.toNat D' ∧ k' ≤ k + 11439 ∧ St w0 w' (aOp O t n vp gr :: aMap 206 130 gr k' D' :: aOwn 72 3 (.slice a' n' c') (out.map itV) :: μ)
end It

set_option maxRecDepth 100000 in
set_option maxHeartbeats 8000000 in
theorem itClosed_any (wb : World) (t n : Int) (vp : Value) (l : List Fc.Pr) (hp : Enc.prods.R (fun b => b < wb.heap.size) wb [vp] l) (he : Gr.err t n l = 0) (O gr : Nat) (w0 w : World) (μ : List Asrt) (L : List It.I) (aL : Option Addr) (cL k : Nat) (D : DataW Unit) (hbw : Below wb.heap.size wb w0) (hok : ∀ x ∈ L, It.okI t l x) (hlen : L.length ≤ 20000)
    (hL : ∀ W, St w0 W μ → (It.Enc.itm.sl 24).R (fun b => b < W.heap.size) W [.slice aL L.length cL] L) (hmemo : It.Memo l n.toNat D) (hk : k ≤ 500000000) (hst : St w0 w (It.aOp O t n vp gr :: aMap 206 130 gr k D :: μ)) :
    Calls Try.prog 73 #[.pointer (some ⟨O, 0, none⟩), .slice aL L.length cL] w (It.RetClosed t n vp l O gr w0 μ L k) := by
  have hz := Gr.err_zero he
  have hT : ((t.toNat : Nat) : Int) = t := by omega
  obtain ⟨ap, bp, op_, cp, rfl, -, p3, p4⟩ := slProds hp
  have HPC : Hid (∀ i, i < l.length → ap = some ⟨bp, op_, none⟩ ∧ ∃ (av : Option Addr) (nv cv : Nat), ∀ W, Below wb.heap.size wb W → W.cell? ⟨bp, op_ + i * 2, none⟩ = some (.int .i64 (l.getD i (0, [])).1) ∧ W.cell? ⟨bp, op_ + i * 2 + 1, none⟩ = some (.slice av nv cv)) := Lib.hid (fun i hi => by
    obtain ⟨vb, a, b, hE, -⟩ := p4 i hi
    obtain ⟨ab, bb, ob, cb, rfl, -⟩ := Enc.slN (0, 0) hE
    exact ⟨(p3 (by omega)).1, ab, _, cb, fun W hW => ⟨bkeep hW a, bkeep hW b⟩⟩)
  generalize hvp : (Value.slice ap l.length cp) = vp at *
  have HVP := Lib.hid hvp.symm
  clear p3 p4 hvp
  have hnx : Hid (∀ out : List It.I, out.Nodup → (∀ x ∈ out, It.Rch (It.nexts t.toNat (It.theE l n.toNat) (It.theF l n.toNat) l) L x) → out.length ≤ 11439 ∧ ∀ x ∈ out, It.okI t l x) :=
    Lib.hid (fun out hn hr => ⟨It.len_bound (t := t) (l := l) hz.2.1 hz.2.2.2.2.1 (fun p h0 h1 => (It.body_right he h0 h1).1) hn (fun x hx => It.rch_ok hT hok (hr x hx)), fun x hx => It.rch_ok hT hok (hr x hx)⟩)
  have hst1 := (((hst.makeMap 72 3).alloc #[.map (some w.heap.size)] 188).alloc #[.slice none 0 0] 59).nilOwn 72 3
  simp only [World.size_alloc] at hst1
  have HST := Lib.hid (hst1.pick (ρ := aCel (w.heap.size + 1) 188 #[.map (some w.heap.size)] :: aCel (w.heap.size + 1 + 1) 59 #[.slice none 0 0] :: aOwn 72 3 (.slice none 0 0) (([] : List It.I).map It.itV) :: aMap 72 3 w.heap.size 0 (.map []) :: It.aOp O t n vp gr :: aMap 206 130 gr k D :: μ) [2, 1, 0, 3, 4, 5] 6 rfl rfl)
  have HL := Lib.hid hL; have HOK := Lib.hid hok; have HMEMO := Lib.hid hmemo; have HBW := Lib.hid hbw; have HE := Lib.hid he; have HPR := Lib.hid hp
  have HFITS := Lib.hid (fun x (h : It.okI t l x) => It.fits_ok he h)
  have hlen2 : L.length ≤ 20000 := hlen
  have hmm := @run_makeMap Try.prog
  have ht30 : t ≤ 30 := hz.2.1
  have ht0 : 0 ≤ t := hz.1
  have hl40 : l.length ≤ 40 := hz.2.2.2.2.1
  clear hst hst1 hL hok hmemo hbw he hp hz hlen
  have HFIN : Hid (∀ out : List It.I, It.Inv (It.nexts t.toNat (It.theE l n.toNat) (It.theF l n.toNat) l) L out.length out → ∀ x, x ∈ out ↔ It.Rch (It.nexts t.toNat (It.theE l n.toNat) (It.theF l n.toNat) l) L x) := Lib.hid (fun out h => It.inv_end h)
  go_enter Try.func73, Try.ntmps73
  go_wp2_with (fail)
  generalize ((w.alloc _).alloc _).alloc _ = w1 at HST ⊢
  generalize hg6 : w.heap.size + 1 + 1 = g6 at HST ⊢
  generalize hg5 : w.heap.size + 1 = g5 at HST ⊢
  generalize hgm : w.heap.size = gm at HST ⊢
  clear hg5 hg6 hgm hmm
  go_loopg [20] L.length (fun gk v20 wr => ∃ (i : Nat) (M : DataW Unit) (a : Option Addr) (nn c : Nat), v20 = .int .i64 (i : Int) ∧ i ≤ L.length ∧ gk = L.length - i ∧ Hid (It.Kept M (It.puts (L.take i) []) i) ∧ St w0 wr (aCel g5 188 #[.map (some gm)] :: aCel g6 59 #[.slice a nn c] :: aOwn 72 3 (.slice a nn c) ((It.puts (L.take i) []).map It.itV) :: aMap 72 3 gm i M :: It.aOp O t n vp gr :: aMap 206 130 gr k D :: μ))
  case atStart => exact ⟨0, .map [], none, 0, 0, rfl, Nat.zero_le _, rfl, Lib.hid It.kept_nil, HST.out⟩
  case round =>
    clear HST
    obtain ⟨i, M, a, nn, c, rfl, hi, hgk, HK, hst⟩ := hrel
    have HGK := Lib.hid hgk
    have HS := Lib.hid hst
    clear hst hgk
    by_cases hlt : i < L.length
    · have hltI : (i : Int) < (L.length : Int) := by omega
      have hLr := HL.out wr (HS.out.pick (ρ := μ) [] 6 rfl rfl)
      obtain ⟨bL, oL, rfl⟩ := It.itmAddr hLr (by omega)
      obtain ⟨e0, e1, e2⟩ := It.itmAt hLr hlt
      have hsn := It.take_snoc L hlt
      have hokx := HOK.out (L.getD i It.z) (by rw [List.getD_eq_getElem?_getD, List.getElem?_eq_getElem hlt]; exact List.getElem_mem _)
      have hfit := HFITS.out _ hokx
      have hln := It.puts_len (ys := L.take i) (out := [])
      rw [List.length_nil, List.length_take] at hln
      have blt := World.block_lt_of_cell? _ _ e0
      simp only at blt
      have hsp : It.puts (L.take (i + 1)) [] = It.put (It.puts (L.take i) []) (L.getD i It.z) := by rw [hsn, It.puts_snoc]
      generalize L.getD i It.z = x at *
      obtain ⟨x1, x2, x3⟩ := x
      simp only at e0 e1 e2
      have HSP := Lib.hid hsp
      generalize It.puts (L.take i) [] = out at *
      have HST2 := Lib.hid (HS.out.skip (.cells #[.int .i64 x1, .int .i64 x2, .int .i64 x3] 72))
      have HPUT := Lib.hid (itPut_any w0 _ g5 g6 gm i M a nn c out (x1, x2, x3) (It.aOp O t n vp gr :: aMap 206 130 gr k D :: μ) hfit HK.out (by omega) (by omega) HST2.out)
      clear hLr hokx hfit hln hsn hsp
      go_wp2_with (fail)
      go_at_call 108
      refine HPUT.out.mono ?_
      rintro e w5 ⟨M', a', n', c', rfl, hk', hst5⟩
      have HST5 := Lib.hid hst5
      have HK5 := Lib.hid hk'
      clear hst5 hk' HPUT HST2 e0 e1 e2
      go_wp2_with (fail)
      go_roundg (L.length - (i + 1))
      case measure => have := HGK.out; omega
      case rel =>
        refine ⟨i + 1, M', a', n', c', by go_num, by omega, rfl, ?_, ?_⟩
        · rw [HSP.out]; exact HK5
        · rw [HSP.out]; exact HST5.out
    · have hil : i = L.length := by omega
      have hltI : decide ((i : Int) < (L.length : Int)) = false := decide_eq_false (by omega)
      have hltf : ¬ ((i : Int) < (L.length : Int)) := by omega
      have htl : L.take i = L := List.take_of_length_le (by omega)
      rw [htl] at HK HS
      have HI0 := Lib.hid (It.inv_start (f := It.nexts t.toNat (It.theE l n.toNat) (It.theF l n.toNat) l) (L := L))
      generalize It.puts L [] = out0 at HI0 HK HS
      have him : i ≤ 20000 := by omega
      clear htl hlt hil
      go_wp2_with (fail)
      clear hltI hltf
      go_loopg [10] 11440 (fun gk v10 wr => ∃ (j m k' : Nat) (out : List It.I) (M D' : DataW Unit) (a : Option Addr) (nn c : Nat), v10 = .int .i64 (j : Int) ∧ gk = 11440 - j ∧ j ≤ out.length ∧ m ≤ 20000 + 1240 * j ∧ k' ≤ k + j ∧ Hid (It.Inv (It.nexts t.toNat (It.theE l n.toNat) (It.theF l n.toNat) l) L j out ∧ It.Kept M out m ∧ It.Memo l n.toNat D') ∧ St w0 wr (aCel g5 188 #[.map (some gm)] :: aCel g6 59 #[.slice a nn c] :: aOwn 72 3 (.slice a nn c) (out.map It.itV) :: aMap 72 3 gm m M :: It.aOp O t n vp gr :: aMap 206 130 gr k' D' :: μ))
      case atStart => exact ⟨0, i, k, out0, M, D, a, nn, c, rfl, rfl, Nat.zero_le _, by omega, by omega, Lib.hid ⟨HI0.out, HK.out, HMEMO.out⟩, HS.out⟩
      case round =>
        rename World => wp
        clear HS HK HI0 HGK hi him
        obtain ⟨j, m, k', out, M, D', a, nn, c, rfl, hgk, hjl, hmj, hkj, HI, hst⟩ := hrel
        have HGK := Lib.hid hgk
        have HS := Lib.hid hst
        clear hst hgk
        obtain ⟨hob, hoi⟩ := hnx.out out HI.out.1.nd HI.out.1.rch
        obtain ⟨rfl, hadr, hnil⟩ := It.ownLen (HS.out.nth 2 rfl)
        by_cases hlt : j < out.length
        · obtain ⟨ga, rfl⟩ := hadr (by omega)
          have hltI : (j : Int) < (out.length : Int) := by omega
          have hltD : decide ((j : Int) < (out.length : Int)) = true := decide_eq_true hltI
          obtain ⟨x0, x1, x2⟩ := It.ownAt3 (HS.out.nth 2 rfl) hlt
          have hokx := hoi (out.getD j It.z) (by rw [List.getD_eq_getElem?_getD, List.getElem?_eq_getElem hlt]; exact List.getElem_mem _)
          have HSTEP := Lib.hid (It.inv_step HI.out.1 hlt)
          have s0 := (HS.out.nth 1 rfl).celAt (i := 0) (v := .slice (some ⟨ga, 0, none⟩) out.length c) rfl
          have o0 := (HS.out.nth 4 rfl).celAt (i := 0) (v := .int .i64 t) rfl
          have o1 := (HS.out.nth 4 rfl).celAt (i := 1) (v := .int .i64 n) rfl
          have o2 := (HS.out.nth 4 rfl).celAt (i := 2) (v := vp) rfl
          obtain ⟨q, hq⟩ : ∃ q, out.getD j It.z = q := ⟨_, rfl⟩
          have HQ := Lib.hid hq
          rw [hq] at x0 x1 x2 hokx
          rw [show out.getD j (0, 0, 0) = q from hq] at HSTEP
          clear hq
          obtain ⟨p, d, lk⟩ := q
          simp only at x0 x1 x2
          have HBD := Lib.hid (fun W ν (h : St w0 W ν) => itBody_st wb t n vp l HPR.out (by omega) p hokx.1 hokx.2.1 w0 W ν HBW.out h)
          have HOKX := Lib.hid hokx
          go_wp2_with (fail)
          refine wp_region_held_drew (S := (fun w' => w'.cell? ⟨O, 0, none⟩ = some (.int .i64 t) ∧ w'.cell? ⟨O, 1, none⟩ = some (.int .i64 n) ∧ w'.cell? ⟨O, 2, none⟩ = some vp ∧ w'.cell? ⟨g6, 0, none⟩ = some (.slice (some ⟨ga, 0, none⟩) out.length c) ∧ w'.cell? ⟨ga, j * 3, none⟩ = some (.int .i64 p))) (by kernel_rfl) ?_ (fun hHeld => ?_)
          · (try dsimp only); (first | exact ⟨o0, o1, o2, s0, x0⟩ | exact ⟨y0, y1, y2, ys0, yx0⟩)

          refine wpAnyH_take (i := 0) (v := ?_) rfl (by kernel_rfl) (by kernel_rfl) (by kernel_rfl) (fun _ _ _ h => h) (Or.inl ⟨by rfl, ?_⟩) (by assumption) ?_
          rotate_left; focus (intro w hSw; (try dsimp only at hSw); go_simp; try (with_reducible rfl); done)
          try simp only [List.getElem_toArray, List.getElem_cons_zero, List.getElem_cons_succ, Act.put, List.setIfInBounds_toArray, List.set_cons_zero, List.set_cons_succ]
          refine wpAnyH_take (i := 1) (v := ?_) rfl (by kernel_rfl) (by kernel_rfl) (by kernel_rfl) (fun _ _ _ h => h) (Or.inl ⟨by rfl, ?_⟩) (by assumption) ?_
          rotate_left; focus (intro w hSw; (try dsimp only at hSw); go_simp; try (with_reducible rfl); done)
          try simp only [List.getElem_toArray, List.getElem_cons_zero, List.getElem_cons_succ, Act.put, List.setIfInBounds_toArray, List.set_cons_zero, List.set_cons_succ]
          refine wpAnyH_take (i := 2) (v := ?_) rfl (by kernel_rfl) (by kernel_rfl) (by kernel_rfl) (fun _ _ _ h => h) (Or.inl ⟨by rfl, ?_⟩) (by assumption) ?_
          rotate_left; focus (intro w hSw; (try dsimp only at hSw); go_simp; try (with_reducible rfl); done)
          try simp only [List.getElem_toArray, List.getElem_cons_zero, List.getElem_cons_succ, Act.put, List.setIfInBounds_toArray, List.set_cons_zero, List.set_cons_succ]
          refine wpAnyH_take (i := 3) (v := ?_) rfl (by kernel_rfl) (by kernel_rfl) (by kernel_rfl) (fun _ _ _ h => h) (Or.inl ⟨by rfl, ?_⟩) (by assumption) ?_
          rotate_left; focus (intro w hSw; (try dsimp only at hSw); go_simp; try (with_reducible rfl); done)
          try simp only [List.getElem_toArray, List.getElem_cons_zero, List.getElem_cons_succ, Act.put, List.setIfInBounds_toArray, List.set_cons_zero, List.set_cons_succ]
          refine wpAnyH_take (i := 4) (v := ?_) rfl (by kernel_rfl) (by kernel_rfl) (by kernel_rfl) (fun _ _ _ h => h) (Or.inl ⟨by rfl, ?_⟩) (by assumption) ?_
          rotate_left; focus (intro w hSw; (try dsimp only at hSw); go_simp; try (with_reducible rfl); done)
          try simp only [List.getElem_toArray, List.getElem_cons_zero, List.getElem_cons_succ, Act.put, List.setIfInBounds_toArray, List.set_cons_zero, List.set_cons_succ]
          refine wpAnyH_take (i := 5) (v := ?_) rfl (by kernel_rfl) (by kernel_rfl) (by kernel_rfl) (fun _ _ _ h => h) (Or.inl ⟨by rfl, ?_⟩) (by assumption) ?_
          rotate_left; focus (intro w hSw; (try dsimp only at hSw); go_simp; try (with_reducible rfl); done)
          try simp only [List.getElem_toArray, List.getElem_cons_zero, List.getElem_cons_succ, Act.put, List.setIfInBounds_toArray, List.set_cons_zero, List.set_cons_succ]
          refine wpAnyH_take (i := 6) (v := ?_) rfl (by kernel_rfl) (by kernel_rfl) (by kernel_rfl) (fun _ _ _ h => h) (Or.inl ⟨by rfl, ?_⟩) (by assumption) ?_
          rotate_left; focus (intro w hSw; (try dsimp only at hSw); go_simp; try (with_reducible rfl); done)
          try simp only [List.getElem_toArray, List.getElem_cons_zero, List.getElem_cons_succ, Act.put, List.setIfInBounds_toArray, List.set_cons_zero, List.set_cons_succ]
          refine wpAnyH_take (i := 7) (v := ?_) rfl (by kernel_rfl) (by kernel_rfl) (by kernel_rfl) (fun _ _ _ h => h) (Or.inl ⟨by rfl, ?_⟩) (by assumption) ?_
          rotate_left; focus (intro w hSw; (try dsimp only at hSw); go_simp; try (with_reducible rfl); done)
          try simp only [List.getElem_toArray, List.getElem_cons_zero, List.getElem_cons_succ, Act.put, List.setIfInBounds_toArray, List.set_cons_zero, List.set_cons_succ]
          refine wpAnyH_take (i := 8) (v := ?_) rfl (by kernel_rfl) (by kernel_rfl) (by kernel_rfl) (fun _ _ _ h => h) (Or.inl ⟨by rfl, ?_⟩) (by assumption) ?_
          rotate_left; focus (intro w hSw; (try dsimp only at hSw); go_simp; try (with_reducible rfl); done)
          try simp only [List.getElem_toArray, List.getElem_cons_zero, List.getElem_cons_succ, Act.put, List.setIfInBounds_toArray, List.set_cons_zero, List.set_cons_succ]
          refine wpAnyH_ready (rs := [9]) (by kernel_rfl) (by simp) ?_
          refine AllReadyH.cons rfl (fun K hK => ?_) AllReadyH.nil
          go_simp
          (go_at_call 107; refine (HBD.out _ _ HS.out.drew).mono ?_; rintro e w5 ⟨ab, cb, fp, rfl, hst5⟩; have y0 := (hst5.nth 5 rfl).celAt (i := 0) (v := .int .i64 t) rfl; have y1 := (hst5.nth 5 rfl).celAt (i := 1) (v := .int .i64 n) rfl; have y2 := (hst5.nth 5 rfl).celAt (i := 2) (v := vp) rfl; have ys0 := (hst5.nth 2 rfl).celAt (i := 0) (v := .slice (some ⟨ga, 0, none⟩) out.length c) rfl; have yx := It.ownAt3 (hst5.nth 3 rfl) hlt; rw [HQ.out] at yx; simp only at yx; obtain ⟨yx0, yx1, yx2⟩ := yx; have HST5 := Lib.hid hst5; clear hst5)
          refine hK.out _ _ ?_ (fun hHeld => ?_)
          · (try dsimp only); (first | exact ⟨o0, o1, o2, s0, x0⟩ | exact ⟨y0, y1, y2, ys0, yx0⟩)
          clear hK K
          try simp only [List.getElem_toArray, List.getElem_cons_zero, List.getElem_cons_succ, Act.put, List.setIfInBounds_toArray, List.set_cons_zero, List.set_cons_succ]
          refine wpAnyH_take (i := 10) (v := ?_) rfl (by kernel_rfl) (by kernel_rfl) (by kernel_rfl) (fun _ _ _ h => h) (Or.inl ⟨by rfl, ?_⟩) (by assumption) ?_
          rotate_left; focus (intro w hSw; (try dsimp only at hSw); go_simp; try (with_reducible rfl); done)
          try simp only [List.getElem_toArray, List.getElem_cons_zero, List.getElem_cons_succ, Act.put, List.setIfInBounds_toArray, List.set_cons_zero, List.set_cons_succ]
          refine wpAnyH_done (by kernel_rfl) ?_ _
          clear o0 o1 o2 s0 x0 x1 x2 HBD HS
          obtain ⟨d, rfl⟩ := Int.eq_ofNat_of_zero_le hokx.2.2.1
          have hdb := hokx.2.2.2.1
          simp only at hdb
          by_cases hd : d = (It.body l p).length
          · have hdt : ((d : Int) == ((It.body l p).length : Int)) = true := by rw [beq_iff_eq]; omega
            have hns := It.nexts_stop (T := t.toNat) (E := It.theE l n.toNat) (F := It.theF l n.toNat) (l := l) (x := (p, (d : Int), lk)) (.inl (by simp only; omega))
            rw [hns, It.puts_nil] at HSTEP
            clear hokx hns hd
            go_wp2_with (fail)
            go_roundg (11440 - (j + 1))
            case measure => have := HGK.out; omega
            case rel => exact ⟨j + 1, m, k', out, M, D', some ⟨ga, 0, none⟩, out.length, c, by go_num, rfl, by omega, by omega, by omega, Lib.hid ⟨HSTEP.out, HI.out.2.1, HI.out.2.2⟩, HST5.out.pick [1, 2, 3, 4, 5, 6] 7 rfl rfl⟩
          · have hdl : d < (It.body l p).length := by omega
            have hdt : ((d : Int) == ((It.body l p).length : Int)) = false := by rw [beq_eq_false_iff_ne]; omega
            have hdI : (d : Int) < ((It.body l p).length : Int) := by omega
            obtain ⟨bb, ob, rfl⟩ := It.bodyAddr HST5.out (by omega)
            obtain ⟨b0, b1⟩ := It.bodyAt HST5.out hdl
            obtain ⟨kd, hkd⟩ : ∃ q, ((It.body l p).getD d (0, 0)).1 = q := ⟨_, rfl⟩
            obtain ⟨nm, hnm⟩ : ∃ q, ((It.body l p).getD d (0, 0)).2 = q := ⟨_, rfl⟩
            rw [hkd] at b0
            rw [hnm] at b1
            by_cases hk2 : kd = 2
            · have hkt : (kd != 2) = false := by rw [bne_eq_false_iff_eq]; exact hk2
              have hng := It.nexts_go (T := t.toNat) (E := It.theE l n.toNat) (F := It.theF l n.toNat) (l := l) (x := (p, (d : Int), lk)) (by
                rintro (h | h)
                · simp only at h; omega
                · simp only [Int.toNat_natCast] at h; rw [hkd] at h; exact h hk2)
              rw [hng] at HSTEP
              have hxin : (p, (d : Int), lk) ∈ out := by have := HQ.out; rw [← this, List.getD_eq_getElem?_getD, List.getElem?_eq_getElem hlt]; exact List.getElem_mem _
              have HSUB : Hid (∀ ys : List It.I, (∀ y ∈ ys, y ∈ (List.range l.length).flatMap (It.atP t.toNat (It.theE l n.toNat) (It.theF l n.toNat) l (p, (d : Int), lk))) → (It.puts ys out).length ≤ 11439) := Lib.hid (fun ys hys => (hnx.out _ (It.puts_nodup HI.out.1.nd) (fun y hy => (It.puts_mem.1 hy).elim (HI.out.1.rch y) (fun h => .step (HI.out.1.rch _ hxin) (by rw [hng]; exact hys y h)))).1)
              clear hxin
              have HLK := Lib.hid (fun W (ν : List Asrt) h => itLooks_any wb t n vp l HPR.out HE.out O gr w0 W ν (p, (d : Int), lk) k' D' hokx (by simp only; omega) HI.out.2.2 (by omega) HBW.out h)
              have HNM : Hid (((It.body l p).getD (d : Int).toNat (0, 0)).2 = nm) := Lib.hid (by rw [Int.toNat_natCast]; exact hnm)
              have HSTL := Lib.hid (HST5.out.pick (ρ := It.aOp O t n vp gr :: aMap 206 130 gr k' D' :: It.aBody w0 fp (some ⟨bb, ob, none⟩) cb (It.body l p) :: aCel g5 188 #[.map (some gm)] :: aCel g6 59 #[.slice (some ⟨ga, 0, none⟩) out.length c] :: aOwn 72 3 (.slice (some ⟨ga, 0, none⟩) out.length c) (out.map It.itV) :: aMap 72 3 gm m M :: μ) [5, 6, 0, 1, 2, 3, 4] 7 rfl rfl)
              clear hng hkd hnm hd
              go_wp2_with (fail)
              go_at_call 109
              refine (HLK.out _ _ HSTL.out).mono ?_
              rintro e w6 ⟨D2, k2, rfl, hm2, hk2', hf, hst6⟩
              have HM2 := Lib.hid hm2
              have HBIT := Lib.hid (fun kk : Nat => It.look_bit (It.the_good hf).choose_spec.choose_spec.choose_spec HE.out hokx kk)
              have hlk63 := It.look_lt (It.the_good hf).choose_spec.choose_spec.choose_spec HE.out hokx
              obtain ⟨LK, hLK⟩ : ∃ q, It.look (It.theE l n.toNat) (It.theF l n.toNat) l (p, (d : Int), lk) = q := ⟨_, rfl⟩
              rw [hLK] at HBIT hlk63 ⊢
              have HST6 := Lib.hid hst6
              clear hLK hst6 hf hm2 HLK HSTL HST5 b0 b1 y0 y1 y2 ys0 yx0 yx1 yx2
              have o2 := (HST6.out.nth 0 rfl).celAt (i := 2) (v := vp) rfl
              have o0 := (HST6.out.nth 0 rfl).celAt (i := 0) (v := .int .i64 t) rfl
              obtain rfl := HVP.out
              go_wp2_with (fail)
              go_loopg [76] l.length (fun gk v76 wr2 => ∃ (i2 m2 : Nat) (M2 : DataW Unit) (a2 : Option Addr) (nn2 c2 : Nat), v76 = .int .i64 (i2 : Int) ∧ i2 ≤ l.length ∧ gk = l.length - i2 ∧ m2 ≤ m + 31 * i2 ∧ Hid (It.Kept M2 (It.puts ((List.range i2).flatMap (It.atP t.toNat (It.theE l n.toNat) (It.theF l n.toNat) l (p, (d : Int), lk))) out) m2) ∧ St w0 wr2 (It.aOp O t n (.slice ap l.length cp) gr :: aMap 206 130 gr k2 D2 :: It.aBody w0 fp (some ⟨bb, ob, none⟩) cb (It.body l p) :: aCel g5 188 #[.map (some gm)] :: aCel g6 59 #[.slice a2 nn2 c2] :: aOwn 72 3 (.slice a2 nn2 c2) ((It.puts ((List.range i2).flatMap (It.atP t.toNat (It.theE l n.toNat) (It.theF l n.toNat) l (p, (d : Int), lk))) out).map It.itV) :: aMap 72 3 gm m2 M2 :: μ))
              case atStart => exact ⟨0, m, M, some ⟨ga, 0, none⟩, out.length, c, rfl, Nat.zero_le _, rfl, by omega, Lib.hid HI.out.2.1, HST6.out⟩
              case round =>
                rename World => wq
                clear HST6 o0 o2
                obtain ⟨i2, m2, M2, a2, nn2, c2, rfl, hi2, hgk2, hm2i, HK2, hst2⟩ := hrel
                have HGK2 := Lib.hid hgk2
                have HS2 := Lib.hid hst2
                clear hst2 hgk2
                have hcl := It.puts_getD (ys := (List.range i2).flatMap (It.atP t.toNat (It.theE l n.toNat) (It.theF l n.toNat) l (p, (d : Int), lk))) hlt
                obtain ⟨rfl, hadr2, -⟩ := It.ownLen (HS2.out.nth 5 rfl)
                obtain ⟨ga2, rfl⟩ := hadr2 (by omega)
                by_cases hlt2 : i2 < l.length
                · have hlt2I : (i2 : Int) < (l.length : Int) := by omega
                  obtain ⟨rfl, av, nv, cv, hcell⟩ := HPC.out i2 hlt2
                  obtain ⟨e0, e1⟩ := hcell wq (HBW.out.trans (HS2.out.bel.mono HBW.out.size))
                  have blt := World.block_lt_of_cell? _ _ e0
                  simp only at blt
                  have HSTB := Lib.hid (fun q => ((HS2.out.alloc #[.int .i64 (l.getD i2 (0, [])).1, .slice av nv cv] 112).drewN q))
                  have hrs := It.range_snoc (f := It.atP t.toNat (It.theE l n.toNat) (It.theF l n.toNat) l (p, (d : Int), lk)) i2
                  have hsubs : ∀ y ∈ (List.range (i2 + 1)).flatMap (It.atP t.toNat (It.theE l n.toNat) (It.theF l n.toNat) l (p, (d : Int), lk)), y ∈ (List.range l.length).flatMap (It.atP t.toNat (It.theE l n.toNat) (It.theF l n.toNat) l (p, (d : Int), lk)) := fun y hy => by
                    obtain ⟨u, hu, hy'⟩ := List.mem_flatMap.1 hy
                    exact List.mem_flatMap.2 ⟨u, List.mem_range.2 (by have := List.mem_range.1 hu; omega), hy'⟩
                  rw [hrs] at hsubs
                  have HRS := Lib.hid hrs; have HSUBS := Lib.hid hsubs
                  have HATN := Lib.hid (fun h => It.atP_no (T := t.toNat) (E := It.theE l n.toNat) (F := It.theF l n.toNat) (l := l) (x := (p, (d : Int), lk)) (i := i2) h)
                  have HATY := Lib.hid (fun h => It.atP_yes (T := t.toNat) (E := It.theE l n.toNat) (F := It.theF l n.toNat) (l := l) (x := (p, (d : Int), lk)) (i := i2) h)
                  simp only at HATN HATY
                  rw [HNM.out] at HATN HATY
                  clear hrs hsubs
                  generalize (l.getD i2 (0, [])).1 = hd at *
                  generalize (List.range i2).flatMap (It.atP t.toNat (It.theE l n.toNat) (It.theF l n.toNat) l (p, (d : Int), lk)) = pre at *
                  have HCL := Lib.hid hcl
                  clear hcl hcell
                  go_wp2_with (fail)
                  generalize wq.alloc (.cells #[.int .i64 hd, .slice av nv cv] 112) = w7 at HSTB ⊢
                  generalize wq.heap.size = gx7 at HSTB ⊢
                  have HS7 := Lib.hid (HSTB.out 0)
                  have bx0 : w7.cell? ⟨gx7, 0, none⟩ = some (.int .i64 hd) := (HS7.out.nth 0 rfl).celAt (i := 0) rfl
                  have s2 : w7.cell? ⟨g6, 0, none⟩ = some (.slice (some ⟨ga2, 0, none⟩) (It.puts pre out).length c2) := (HS7.out.nth 5 rfl).celAt (i := 0) rfl
                  have yx := It.ownAt3 (HS7.out.nth 6 rfl) HCL.out.2
                  rw [show (It.puts pre out).getD j It.z = out.getD j It.z from HCL.out.1, HQ.out] at yx
                  simp only at yx
                  obtain ⟨-, yx1, -⟩ := yx
                  replace yx1 : w7.cell? ⟨ga2, j * 3 + 1, none⟩ = some (.int .i64 (d : Int)) := yx1
                  have hb1 := (It.bodyAt (HS7.out.nth 3 rfl) hdl).2
                  rw [show ((It.body l p).getD d (0, 0)).2 = nm by have := HNM.out; rwa [Int.toNat_natCast] at this] at hb1
                  replace hb1 : w7.cell? ⟨bb, ob + d * 2 + 1, none⟩ = some (.int .i64 nm) := hb1
                  have hjI : (j : Int) < ((It.puts pre out).length : Int) := by have := HCL.out.2; omega
                  have hjD : decide ((j : Int) < ((It.puts pre out).length : Int)) = true := decide_eq_true hjI
                  clear e0 e1 blt HS2 HS7
                  by_cases heq : hd = nm
                  · have het : (hd != nm) = false := by rw [bne_eq_false_iff_eq]; exact heq
                    go_quiet (fail)
                    have HS8 := Lib.hid (HSTB.out nq)
                    clear bx0 s2 yx1 hb1 HSTB
                    generalize World.drewN _ _ = w8 at HS8 ⊢
                    have hat := HATY.out heq
                    rw [hat] at HRS HSUBS
                    have o0 : w8.cell? ⟨O, 0, none⟩ = some (.int .i64 t) := (HS8.out.nth 1 rfl).celAt (i := 0) rfl
                    have hwt : IntKind.i64.wrap (t + 1) = t + 1 := IntWalk.i64_in _ (by omega)
                    clear hat heq
                    go_wp2_with (fail)
                    clear o0
                    go_loopg [99] (t.toNat + 1) (fun gk v99 wr3 => ∃ (kk m3 : Nat) (M3 : DataW Unit) (a3 : Option Addr) (nn3 c3 : Nat), v99 = .int .i64 (kk : Int) ∧ kk ≤ t.toNat + 1 ∧ gk = t.toNat + 1 - kk ∧ m3 ≤ m2 + kk ∧ Hid (It.Kept M3 (It.puts (pre ++ It.upTo (It.theE l n.toNat) (It.theF l n.toNat) l (p, (d : Int), lk) i2 kk) out) m3) ∧ St w0 wr3 (It.aOp O t n (.slice (some ⟨bp, op_, none⟩) l.length cp) gr :: aMap 206 130 gr k2 D2 :: It.aBody w0 fp (some ⟨bb, ob, none⟩) cb (It.body l p) :: aCel g5 188 #[.map (some gm)] :: aCel g6 59 #[.slice a3 nn3 c3] :: aOwn 72 3 (.slice a3 nn3 c3) ((It.puts (pre ++ It.upTo (It.theE l n.toNat) (It.theF l n.toNat) l (p, (d : Int), lk) i2 kk) out).map It.itV) :: aMap 72 3 gm m3 M3 :: μ))
                    case atStart => exact ⟨0, m2, M2, some ⟨ga2, 0, none⟩, _, c2, rfl, Nat.zero_le _, rfl, by omega, Lib.hid (by rw [It.upTo_zero, List.append_nil]; exact HK2.out), by rw [It.upTo_zero, List.append_nil]; exact HS8.out.pick [1, 2, 3, 4, 5, 6, 7] 8 rfl rfl⟩
                    case round =>
                      rename World => wu
                      clear HS8
                      obtain ⟨kk, m3, M3, a3, nn3, c3, rfl, hkk, hgk3, hm3, HK3, hst3⟩ := hrel
                      have HGK3 := Lib.hid hgk3
                      have HS3 := Lib.hid hst3
                      clear hst3 hgk3
                      have hm3b : m3 < 1000000000 := by omega
                      by_cases hlt3 : kk < t.toNat + 1
                      · have hlt3I : (kk : Int) < t + 1 := by omega
                        have hlt3D : decide ((kk : Int) < t + 1) = true := decide_eq_true hlt3I
                        have hcur := HSUB.out (pre ++ It.upTo (It.theE l n.toNat) (It.theF l n.toNat) l (p, (d : Int), lk) i2 kk) (fun y hy => HSUBS.out y ((List.mem_append.1 hy).elim (fun h => List.mem_append_left _ h) (fun h => List.mem_append_right _ (It.upTo_sub (by omega) h))))
                        have hbit := It.bit_at LK kk (by omega)
                        rw [HBIT.out kk] at hbit
                        have hkk64 : (kk : Int) < 64 := by omega
                        have HLEN3 := Lib.hid hcur
                        clear hcur
                        by_cases hop : It.opens (It.theE l n.toNat) (It.theF l n.toNat) l (p, (d : Int), lk) kk = true
                        · rw [if_pos hop] at hbit
                          have hup := It.upTo_yes (E := It.theE l n.toNat) (F := It.theF l n.toNat) (l := l) (x := (p, (d : Int), lk)) (i := i2) hop
                          have HUP := Lib.hid hup
                          have HPUT := Lib.hid (itPut_any w0 wu g5 g6 gm m3 M3 a3 nn3 c3 _ ((i2 : Int), 0, (kk : Int)) (It.aOp O t n (.slice (some ⟨bp, op_, none⟩) l.length cp) gr :: aMap 206 130 gr k2 D2 :: It.aBody w0 fp (some ⟨bb, ob, none⟩) cb (It.body l p) :: μ) ⟨WalkArith.wf_i64 (by simp only; omega), WalkArith.wf_i64 (by simp only; omega), WalkArith.wf_i64 (by simp only; omega)⟩ HK3.out hm3b (by have := HLEN3.out; omega) (HS3.out.pick [3, 4, 5, 6, 0, 1, 2] 7 rfl rfl))
                          clear hup hop
                          go_wp2_with (fail)
                          go_at_call 108
                          refine HPUT.out.mono ?_
                          rintro e w9 ⟨M9, a9, n9, c9, rfl, hk9, hst9⟩
                          have HK9 := Lib.hid hk9
                          have HST9 := Lib.hid hst9
                          have HPS := Lib.hid (show It.puts (pre ++ It.upTo (It.theE l n.toNat) (It.theF l n.toNat) l (p, (d : Int), lk) i2 (kk + 1)) out = It.put (It.puts (pre ++ It.upTo (It.theE l n.toNat) (It.theF l n.toNat) l (p, (d : Int), lk) i2 kk) out) ((i2 : Int), 0, (kk : Int)) by rw [HUP.out, ← List.append_assoc, It.puts_snoc])
                          clear hk9 hst9 HPUT HS3
                          go_wp2_with (fail)
                          go_roundg (t.toNat + 1 - (kk + 1))
                          case measure => have := HGK3.out; omega
                          case rel =>
                            refine ⟨kk + 1, m3 + 1, M9, a9, n9, c9, by go_num, by omega, rfl, by omega, ?_, ?_⟩
                            · rw [HPS.out]; exact HK9
                            · rw [HPS.out]; exact HST9.out.pick [4, 5, 6, 0, 1, 2, 3] 7 rfl rfl
                        · rw [if_neg hop] at hbit
                          rw [Bool.not_eq_true] at hop
                          have hup := It.upTo_no (E := It.theE l n.toNat) (F := It.theF l n.toNat) (l := l) (x := (p, (d : Int), lk)) (i := i2) hop
                          have HUP := Lib.hid hup
                          clear hup hop
                          go_wp2_with (fail)
                          go_roundg (t.toNat + 1 - (kk + 1))
                          case measure => have := HGK3.out; omega
                          case rel =>
                            refine ⟨kk + 1, m3, M3, a3, nn3, c3, by go_num, by omega, rfl, by omega, ?_, ?_⟩
                            · rw [HUP.out]; exact HK3
                            · rw [HUP.out]; exact HS3.out
                      · have hkT : kk = t.toNat + 1 := by omega
                        have hlt3D : decide ((kk : Int) < t + 1) = false := decide_eq_false (by omega)
                        have hlt3f : ¬ ((kk : Int) < t + 1) := by omega
                        rw [hkT] at HK3 HS3
                        have hm31 : m3 ≤ m + 31 * (i2 + 1) := by omega
                        clear hkT
                        go_wp2_with (fail)
                        go_roundg (l.length - (i2 + 1))
                        case measure => have := HGK2.out; omega
                        case rel =>
                          refine ⟨i2 + 1, m3, M3, a3, nn3, c3, by go_num, by omega, rfl, by omega, ?_, ?_⟩
                          · rw [HRS.out]; exact HK3
                          · rw [HRS.out]; exact HS3.out
                  · have het : (hd != nm) = true := by rw [bne_iff_ne]; exact heq
                    go_quiet (fail)
                    have HS8 := Lib.hid (HSTB.out nq)
                    clear bx0 s2 yx1 hb1 HSTB
                    generalize World.drewN _ _ = w8 at HS8 ⊢
                    have hat := HATN.out heq
                    rw [hat, List.append_nil] at HRS
                    clear heq hat
                    go_wp2_with (fail)
                    go_roundg (l.length - (i2 + 1))
                    case measure => have := HGK2.out; omega
                    case rel =>
                      refine ⟨i2 + 1, m2, M2, some ⟨ga2, 0, none⟩, (It.puts pre out).length, c2, by go_num, by omega, rfl, by omega, ?_, ?_⟩
                      · rw [HRS.out]; exact HK2
                      · rw [HRS.out]; exact HS8.out.pick [1, 2, 3, 4, 5, 6, 7] 8 rfl rfl
                · have hil2 : i2 = l.length := by omega
                  have hlt2D : decide ((i2 : Int) < (l.length : Int)) = false := decide_eq_false (by omega)
                  have hlt2f : ¬ ((i2 : Int) < (l.length : Int)) := by omega
                  subst hil2
                  have HLEN := Lib.hid hcl.2
                  go_wp2_with (fail)
                  go_roundg (11440 - (j + 1))
                  case measure => have := HGK.out; omega
                  case rel =>
                    exact ⟨j + 1, m2, k2, _, M2, D2, some ⟨ga2, 0, none⟩, _, c2, by go_num, rfl, HLEN.out, by omega, by omega, Lib.hid ⟨HSTEP.out, HK2.out, HM2.out⟩, HS2.out.pick [3, 4, 5, 6, 0, 1] 7 rfl rfl⟩
            · have hkt : (kd != 2) = true := by rw [bne_iff_ne]; exact hk2
              have hns := It.nexts_stop (T := t.toNat) (E := It.theE l n.toNat) (F := It.theF l n.toNat) (l := l) (x := (p, (d : Int), lk)) (.inr (by simp only [Int.toNat_natCast]; rw [hkd]; exact hk2))
              rw [hns, It.puts_nil] at HSTEP
              clear hokx hns hk2 hkd hnm hd
              go_wp2_with (fail)
              go_roundg (11440 - (j + 1))
              case measure => have := HGK.out; omega
              case rel => exact ⟨j + 1, m, k', out, M, D', some ⟨ga, 0, none⟩, out.length, c, by go_num, rfl, by omega, by omega, by omega, Lib.hid ⟨HSTEP.out, HI.out.2.1, HI.out.2.2⟩, HST5.out.pick [1, 2, 3, 4, 5, 6] 7 rfl rfl⟩
        · have hjo : j = out.length := by omega
          have hltD : decide ((j : Int) < (out.length : Int)) = false := decide_eq_false (by omega)
          have hltf : ¬ ((j : Int) < (out.length : Int)) := by omega
          have hiv := HI.out.1
          rw [hjo] at hiv
          have hmem := HFIN.out out hiv
          have hnd := HI.out.1.nd
          have HMEM := Lib.hid hmem; have HND := Lib.hid hnd; have HM3 := Lib.hid HI.out.2.2
          have hkk : k' ≤ k + 11439 := by omega
          have hol : out.length ≤ 1000000 := by omega
          have HLT := Lib.hid hlt
          have s0 := (HS.out.nth 1 rfl).celAt (i := 0) (v := .slice a out.length c) rfl
          clear hlt hjo hiv hmem hnd
          by_cases hz0 : out.length = 0
          · rcases hnil hz0 with ⟨rfl, rfl⟩ | ⟨g, rfl⟩
            · obtain rfl : out = [] := List.length_eq_zero_iff.1 hz0
              rw [List.length_nil] at s0 HS
              clear hz0 hnil hadr
              go_wp2_with (fail)
              go_at_call 110
              refine (itSortNil _).mono ?_
              rintro e w8 ⟨rfl, hb8⟩
              have HS8 := Lib.hid (HS.out.call hb8)
              have s1 := (HS8.out.nth 1 rfl).celAt (i := 0) (v := .slice none 0 0) rfl
              clear hb8 s0
              go_wp2_with (fail)
              go_ret
              exact ⟨_, _, _, [], D', k', rfl, List.Pairwise.nil, HMEM.out, HM3.out, hkk, HS8.out.pick [4, 5, 2] 6 rfl rfl⟩
            · clear hz0 hnil hadr
              have HSRT := Lib.hid (itSort_any w0 wp g c out (aCel g5 188 #[.map (some gm)] :: aCel g6 59 #[.slice (some ⟨g, 0, none⟩) out.length c] :: aMap 72 3 gm m M :: It.aOp O t n vp gr :: aMap 206 130 gr k' D' :: μ) hol (HS.out.pick [2, 0, 1, 3, 4, 5] 6 rfl rfl))
              go_wp2_with (fail)
              go_at_call 110
              refine HSRT.out.mono ?_
              rintro e w8 ⟨out', rfl, hperm, hsort, hst8⟩
              rw [hperm.length_eq] at hst8 hsort
              have s1 := (hst8.nth 2 rfl).celAt (i := 0) (v := .slice (some ⟨g, 0, none⟩) out.length c) rfl
              have HS8 := Lib.hid hst8
              have HRISE := Lib.hid (It.sorted_rise (hperm.nodup_iff.2 HND.out) (fun i j hij hj => hsort i j hij (by rw [← hperm.length_eq]; exact hj)))
              have HMEM8 := Lib.hid (fun x => (hperm.mem_iff (a := x)).trans (HMEM.out x))
              clear hst8 hperm hsort HSRT s0
              go_wp2_with (fail)
              go_ret
              exact ⟨_, _, _, out', D', k', rfl, HRISE.out, HMEM8.out, HM3.out, hkk, HS8.out.pick [4, 5, 0] 6 rfl rfl⟩
          · obtain ⟨g, rfl⟩ := hadr (by omega)
            clear hz0 hnil hadr
            have HSRT := Lib.hid (itSort_any w0 wp g c out (aCel g5 188 #[.map (some gm)] :: aCel g6 59 #[.slice (some ⟨g, 0, none⟩) out.length c] :: aMap 72 3 gm m M :: It.aOp O t n vp gr :: aMap 206 130 gr k' D' :: μ) hol (HS.out.pick [2, 0, 1, 3, 4, 5] 6 rfl rfl))
            go_wp2_with (fail)
            go_at_call 110
            refine HSRT.out.mono ?_
            rintro e w8 ⟨out', rfl, hperm, hsort, hst8⟩
            rw [hperm.length_eq] at hst8 hsort
            have s1 := (hst8.nth 2 rfl).celAt (i := 0) (v := .slice (some ⟨g, 0, none⟩) out.length c) rfl
            have HS8 := Lib.hid hst8
            have HRISE := Lib.hid (It.sorted_rise (hperm.nodup_iff.2 HND.out) (fun i j hij hj => hsort i j hij (by rw [← hperm.length_eq]; exact hj)))
            have HMEM8 := Lib.hid (fun x => (hperm.mem_iff (a := x)).trans (HMEM.out x))
            clear hst8 hperm hsort HSRT s0
            go_wp2_with (fail)
            go_ret
            exact ⟨_, _, _, out', D', k', rfl, HRISE.out, HMEM8.out, HM3.out, hkk, HS8.out.pick [4, 5, 0] 6 rfl rfl⟩
end Go.Proofs.Ytkhjncbjdldpbaa
