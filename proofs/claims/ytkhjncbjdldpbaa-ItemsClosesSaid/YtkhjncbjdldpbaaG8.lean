/-
  Parts of the proof of ItemsCloses, put together: FcClo3 FcAllN FcAll GramIn ItemsClosesW. (Helper texts.)
-/
import Derived.Test.YtkhjncbjdldpbaaG1
import Derived.Test.YtkhjncbjdldpbaaG2
import Derived.Test.YtkhjncbjdldpbaaG4
import Derived.Test.YtkhjncbjdldpbaaG6
import Derived.Test.YtkhjncbjdldpbaaG7
import Derived.Laws.EntriesVeiled

/-
  The closure of AllFacts of the reference for First.
-/
namespace Go.Proofs.Ytkhjncbjdldpbaa
set_option linter.unusedVariables false
set_option linter.unusedSimpArgs false
open Go.ChangeShapes Go.WideShapes Go.ChangeAt Go.RowKit

namespace Fc
section
variable {E : List Bool} {S : Nat → Bool} {t : Nat} {x : Int × Int} {r : List (Int × Int)}
theorem begB_term (h : x.1 = 1) : begB E S t (x :: r) = decide (x.2.toNat = t) := by rw [begB, if_pos h]
theorem begB_yes (h : ¬ x.1 = 1) (h2 : S x.2.toNat = true) : begB E S t (x :: r) = true := by rw [begB, if_neg h, if_pos h2]
theorem begB_no (h : ¬ x.1 = 1) (h2 : S x.2.toNat = false) (h3 : E.getD x.2.toNat false = false) : begB E S t (x :: r) = false := by rw [begB, if_neg h, if_neg (by rw [h2]; simp), if_neg (by rw [h3]; simp)]
theorem begB_on (h : ¬ x.1 = 1) (h2 : S x.2.toNat = false) (h3 : E.getD x.2.toNat false = true) : begB E S t (x :: r) = begB E S t r := by rw [begB, if_neg h, if_neg (by rw [h2]; simp), if_pos h3]
end
end Fc

set_option maxRecDepth 100000 in
set_option maxHeartbeats 1600000 in
theorem fcC3_any (w0 w : World) (B B5 B10 B11 n cap gE nM cM gM nS cS gS t : Nat) (h : Int) (vb vF vW vR : Value) (body : List (Int × Int)) (E M S : List Bool) (μ : List Asrt) (F : Nat → Prop) (hn : n = E.length) (hnM : nM = M.length) (hnS : nS = S.length) (hEM : M.length = E.length) (hES : S.length = E.length) (hb : (Enc.two.sl 16).R F w0 [vb] body) (hx : ∀ x ∈ body, (x.1 = 1 ∧ 0 ≤ x.2) ∨ (x.1 = 2 ∧ 0 ≤ x.2 ∧ x.2 < E.length))
    (hst : St w0 w (Fc.aB (.slice (some ⟨gS, 0, none⟩) nS cS) S :: aCel B5 156 #[.func (.func 77) #[] #[.pointer (some ⟨B, 0, none⟩)]] :: aCel B10 3 #[.int .i64 t] :: aCel B11 52 #[.slice (some ⟨gS, 0, none⟩) nS cS] :: aCel B 68 #[.slice (some ⟨gE, 0, none⟩) n cap, vF, vW, vR, .slice (some ⟨gM, 0, none⟩) nM cM] :: Fc.aB (.slice (some ⟨gE, 0, none⟩) n cap) E :: Fc.aB (.slice (some ⟨gM, 0, none⟩) nM cM) M :: μ)) :
    Calls Try.prog 78 #[.agg #[.int .i64 h, vb], .pointer (some ⟨B5, 0, none⟩), .pointer (some ⟨B10, 0, none⟩), .pointer (some ⟨B11, 0, none⟩), .pointer (some ⟨B, 0, none⟩)] w fun e w' => e = .returned (.bool (Fc.all M true body && Fc.begB E (fun i => S.getD i false) t body)) ∧
      St w0 w' (Fc.aB (.slice (some ⟨gS, 0, none⟩) nS cS) S :: aCel B5 156 #[.func (.func 77) #[] #[.pointer (some ⟨B, 0, none⟩)]] :: aCel B10 3 #[.int .i64 t] :: aCel B11 52 #[.slice (some ⟨gS, 0, none⟩) nS cS] :: aCel B 68 #[.slice (some ⟨gE, 0, none⟩) n cap, vF, vW, vR, .slice (some ⟨gM, 0, none⟩) nM cM] :: Fc.aB (.slice (some ⟨gE, 0, none⟩) n cap) E :: Fc.aB (.slice (some ⟨gM, 0, none⟩) nM cM) M :: μ) := by
  have HC2 := Lib.hid fun W μ hs => fcC2_any w0 W B nM cM gM h vb (.slice (some ⟨gE, 0, none⟩) n cap) vF vW vR body M μ F hnM hb (by rw [hEM]; exact hx) (hst := hs)
  obtain ⟨ab, bb, ob, cb, rfl, hl, b3, b4⟩ := slTwo hb
  have B3 := Lib.hid b3; have B4 := Lib.hid b4; have HX := Lib.hid hx; have HN := Lib.hid hn; have HNS := Lib.hid hnS; have HES := Lib.hid hES
  have hll : (body.length : Int) ≤ 140737488355328 := by omega
  obtain ⟨A, hA⟩ : ∃ A, Fc.all M true body = A := ⟨_, rfl⟩
  rw [hA] at HC2 ⊢
  obtain ⟨R, hR⟩ : ∃ R, Fc.begB E (fun i => S.getD i false) t body = R := ⟨_, rfl⟩
  rw [hR]
  have HR : Hid (Fc.begB E (fun i => S.getD i false) t (body.drop 0) = R) := Lib.hid hR
  have hst1 := (hst.alloc #[.int .i64 h, .slice ab body.length cb] 112)
  have HST := Lib.hid hst1
  clear hb b3 b4 hx hR hst hst1 hl hn hnM hnS hEM hES hA
  go_enter Try.func78, Try.ntmps78
  go_wp2
  go_loopg [7] body.length (fun gk i wr => ∃ k : Nat, k ≤ body.length ∧ gk = body.length - k ∧ i = .int .i64 k ∧ St w0 wr (aCel w.heap.size 112 #[.int .i64 h, .slice ab body.length cb] :: Fc.aB (.slice (some ⟨gS, 0, none⟩) nS cS) S :: aCel B5 156 #[.func (.func 77) #[] #[.pointer (some ⟨B, 0, none⟩)]] :: aCel B10 3 #[.int .i64 t] :: aCel B11 52 #[.slice (some ⟨gS, 0, none⟩) nS cS] :: aCel B 68 #[.slice (some ⟨gE, 0, none⟩) n cap, vF, vW, vR, .slice (some ⟨gM, 0, none⟩) nM cM] :: Fc.aB (.slice (some ⟨gE, 0, none⟩) n cap) E :: Fc.aB (.slice (some ⟨gM, 0, none⟩) nM cM) M :: μ) ∧ Hid (Fc.begB E (fun i => S.getD i false) t (body.drop k) = R))
  case atStart => exact ⟨0, by omega, by omega, rfl, HST.out, HR⟩
  case round =>
    clear HST HR
    obtain ⟨k, hk, hgk, rfl, hst, HR⟩ := hrel
    have HGK := Lib.hid hgk
    clear hgk
    obtain ⟨p0, p1⟩ := hst.at2 0 rfl
    have l0 := World.block_lt_of_cell? _ _ p0
    have b5 := (hst.nth 2 rfl).celAt (i := 0) rfl
    by_cases hlt : k < body.length
    · obtain ⟨rfl, _, _⟩ := B3.out (by omega)
      obtain ⟨s1, s2, -, -⟩ := B4.out k hlt
      have hlt2 : (k : Int) < body.length := by omega
      have HST := Lib.hid (hst.pick [7, 5, 0, 1, 2, 3, 4, 6] 8 rfl rfl)
      clear hst
      go_wp2_with (fail)
      go_at_call 77
      refine (HC2.out _ _ HST.out).mono ?_
      rintro e w8 ⟨rfl, hst8⟩
      have hst := hst8.pick (ρ := (aCel w.heap.size 112 #[.int .i64 h, .slice (some ⟨bb, ob, none⟩) body.length cb] :: Fc.aB (.slice (some ⟨gS, 0, none⟩) nS cS) S :: aCel B5 156 #[.func (.func 77) #[] #[.pointer (some ⟨B, 0, none⟩)]] :: aCel B10 3 #[.int .i64 t] :: aCel B11 52 #[.slice (some ⟨gS, 0, none⟩) nS cS] :: aCel B 68 #[.slice (some ⟨gE, 0, none⟩) n cap, vF, vW, vR, .slice (some ⟨gM, 0, none⟩) nM cM] :: Fc.aB (.slice (some ⟨gE, 0, none⟩) n cap) E :: Fc.aB (.slice (some ⟨gM, 0, none⟩) nM cM) M :: μ)) [2, 3, 4, 5, 6, 1, 7, 0] 8 rfl rfl
      clear HST hst8 p0 p1 l0 b5
      obtain ⟨p0, p1⟩ := hst.at2 0 rfl
      cases A
      · have HST := Lib.hid hst
        clear hst
        go_wp2
        go_ret
        exact ⟨rfl, HST.out.drop⟩
      · have hd := Fc.drop_at hlt (0, 0)
        have hxx := HX.out (body.getD k (0, 0)) (by rw [show body.getD k (0, 0) = body[k] by simp [List.getD, List.getElem?_eq_getElem hlt]]; exact List.getElem_mem hlt)
        have hr := HR.out
        rw [hd] at hr
        generalize body.getD k (0, 0) = x at *
        obtain ⟨x1, x2⟩ := x
        simp only at s1 s2 hxx
        have c1 := bkeep hst.bel s1
        have c2 := bkeep hst.bel s2
        have lb := World.block_lt_of_cell? _ _ c1
        have HST := Lib.hid (hst.skip (.cells #[.int .i64 x1, .int .i64 x2] 61))
        have l0 := World.block_lt_of_cell? _ _ p0
        have b10 := (hst.nth 3 rfl).celAt (i := 0) rfl
        have l10 := World.block_lt_of_cell? _ _ b10
        have b11 := (hst.nth 4 rfl).celAt (i := 0) rfl
        have l11 := World.block_lt_of_cell? _ _ b11
        have bB := (hst.nth 5 rfl).celAt (i := 0) rfl
        have lB := World.block_lt_of_cell? _ _ bB
        rcases hxx with ⟨rfl, h0⟩ | ⟨rfl, h0, h1⟩
        · rw [Fc.begB_term rfl] at hr
          obtain ⟨q, rfl⟩ := Int.eq_ofNat_of_zero_le h0
          rw [Int.toNat_natCast] at hr
          have hq : ((q : Int) == (t : Int)) = decide (q = t) := by
            by_cases h : q = t
            · subst h; simp
            · rw [decide_eq_false h, beq_eq_false_iff_ne]; omega
          rw [← hq] at hr
          have HR2 := Lib.hid hr
          clear s1 s2 hd hst HR hr hq
          go_wp2
          go_ret
          exact ⟨by rw [← HR2.out]; simp, HST.out.drop⟩
        · obtain ⟨q, rfl⟩ := Int.eq_ofNat_of_zero_le h0
          have hq : q < E.length := by omega
          have hqS : q < S.length := by have := HES.out; omega
          have e1 := ((show St w0 w8 (aOwn 4 1 (.slice (some ⟨gE, 0, none⟩) n cap) (E.map Value.bool) :: _) from hst.nth 6 rfl).cellOwn (f := Value.bool) (fun _ => rfl) q hq false).1
          have t1 := ((show St w0 w8 (aOwn 4 1 (.slice (some ⟨gS, 0, none⟩) nS cS) (S.map Value.bool) :: _) from hst.nth 1 rfl).cellOwn (f := Value.bool) (fun _ => rfl) q hqS false).1
          have l2 := World.block_lt_of_cell? _ _ e1
          have l3 := World.block_lt_of_cell? _ _ t1
          have hqn : (q : Int) < n := by have := HN.out; omega
          have hqS2 : (q : Int) < nS := by have := HNS.out; omega
          have h21 : ¬ ((2 : Int) = 1) := by decide
          cases hS : S.getD q false
          · rw [hS] at t1
            cases hv : E.getD q false
            · rw [hv] at e1
              rw [Fc.begB_no h21 (by rw [Int.toNat_natCast]; exact hS) (by rw [Int.toNat_natCast]; exact hv)] at hr
              subst hr
              clear s1 s2 hd hst HR hv hq hqS h21 hS
              go_wp2
              go_ret
              exact ⟨rfl, HST.out.drop⟩
            · rw [hv] at e1
              rw [Fc.begB_on h21 (by rw [Int.toNat_natCast]; exact hS) (by rw [Int.toNat_natCast]; exact hv)] at hr
              have HR2 := Lib.hid hr
              clear s1 s2 hd hst HR hr hv hq hqS h21 hS
              go_wp2
              go_roundg (body.length - (k + 1))
              case measure => have := HGK.out; omega
              case rel => exact ⟨k + 1, by omega, rfl, by go_num, HST.out, HR2⟩
          · rw [hS] at t1
            rw [Fc.begB_yes h21 (by rw [Int.toNat_natCast]; exact hS)] at hr
            subst hr
            clear s1 s2 hd hst HR hq hqS h21 hS e1
            go_wp2
            go_ret
            exact ⟨rfl, HST.out.drop⟩
    · obtain rfl : k = body.length := by omega
      have hr := HR.out
      rw [List.drop_length] at hr
      have hr2 : false = R := hr
      subst hr2
      have HST := Lib.hid hst
      clear hst HR hr
      go_wp2
      go_ret
      exact ⟨by simp, HST.out.drop⟩
end Go.Proofs.Ytkhjncbjdldpbaa

/-
  What the reference's rounds over a grammar give. (Plain functions; nothing of the program is claimed.)
-/
namespace Go.Proofs.Ytkhjncbjdldpbaa
set_option linter.unusedVariables false

namespace Fc
/-! fix: what holds is least. -/
def holdA (terms : Bool) (Y : List Bool) (p : Pr) : Bool := all Y terms p.2
theorem rdH_A {terms : Bool} {l : List Pr} {X : List Bool} : rdH (holdA terms) l X = rdA terms l X := rfl
theorem LA_fix {terms : Bool} {l : List Pr} {N : Nat} {X' : List Bool} (hok : ∀ p ∈ l, okP N p) (hl : X'.length = N) (hf : rdH (holdA terms) l X' = X') (hq : ∀ Q : List Bool → Prop, (∀ Y, Y.length = N → Q Y → Q (rdH (holdA terms) l Y)) → Q (List.replicate N false) → Q X') : LA l N terms X' :=
  LA_of hl (okP_head hok) (fun Z hZ => hq (fun Y => le Y Z) (fun Y _ hY => rdA_le hZ (fun p hp => hp) hY) (le_rep Z)) hf
def holdF (E M : List Bool) (t : Nat) (Y : List Bool) (p : Pr) : Bool := all M true p.2 && begB E (fun i => Y.getD i false) t p.2
theorem rdH_ge {hold : List Bool → Pr → Bool} {l : List Pr} : ∀ {X : List Bool}, le X (rdH hold l X) := by
  induction l with
  | nil => intro X; exact le_refl X
  | cons p l ih => intro X; exact le_trans set1_ge (ih (X := set1 X p.1.toNat (hold X p)))
theorem rdF_leB {E M : List Bool} {t : Nat} {S : Nat → Bool} {l l' : List Pr} (hS : clF l' E M t S) : ∀ {X : List Bool}, (∀ p ∈ l, p ∈ l') → (∀ i, X.getD i false = true → S i = true) → ∀ i, (rdH (holdF E M t) l X).getD i false = true → S i = true := by
  induction l with
  | nil => intro X _ h; exact h
  | cons p l ih =>
    intro X hm h
    refine ih (X := set1 X p.1.toNat (holdF E M t X p)) (fun q hq => hm q (.tail _ hq)) (fun i hi => ?_)
    unfold set1 at hi
    split at hi
    · rename_i hb
      unfold holdF at hb
      rw [Bool.and_eq_true] at hb
      by_cases e : p.1.toNat = i
      · rw [← e]
        exact hS p (hm p (.head _)) hb.1 (begB_mono h hb.2)
      · rw [List.getD_eq_getElem?_getD, List.getElem?_set_ne e, ← List.getD_eq_getElem?_getD] at hi
        exact h i hi
    · exact h i hi
theorem rdF_clB {E M : List Bool} {t : Nat} {l : List Pr} : ∀ {X : List Bool}, (∀ p ∈ l, p.1.toNat < X.length) → rdH (holdF E M t) l X = X → clF l E M t (fun i => X.getD i false) := by
  induction l with
  | nil => intro X _ _ p hp; cases hp
  | cons p l ih =>
    intro X hl h
    have h0 : rdH (holdF E M t) l (set1 X p.1.toNat (holdF E M t X p)) = X := h
    have h1 := rdH_ge (hold := holdF E M t) (l := l) (X := set1 X p.1.toNat (holdF E M t X p))
    rw [h0] at h1
    have h2 : set1 X p.1.toNat (holdF E M t X p) = X := le_anti set1_len h1 set1_ge
    rw [h2] at h0
    intro q hq ha hb
    rcases List.mem_cons.1 hq with rfl | hq
    · exact set1_eq_iff (hl _ (.head _)) h2 (by unfold holdF; rw [ha, hb]; rfl)
    · exact ih (fun z hz => hl z (.tail _ hz)) h0 q hq ha hb
/-- What begins with t: least. -/
def LT (l : List Pr) (E M : List Bool) (t : Nat) (S : Nat → Bool) : Prop := clF l E M t S ∧ ∀ S', clF l E M t S' → ∀ i, S i = true → S' i = true
theorem LT_fix {E M : List Bool} {t : Nat} {l : List Pr} {N : Nat} {X' : List Bool} (hok : ∀ p ∈ l, okP N p) (hl : X'.length = N) (hf : rdH (holdF E M t) l X' = X') (hq : ∀ Q : List Bool → Prop, (∀ Y, Y.length = N → Q Y → Q (rdH (holdF E M t) l Y)) → Q (List.replicate N false) → Q X') : LT l E M t (fun i => X'.getD i false) :=
  ⟨rdF_clB (by rw [hl]; exact okP_head hok) hf, fun S' hS' => hq (fun Y => ∀ i, Y.getD i false = true → S' i = true) (fun Y _ hY => rdF_leB hS' (fun p hp => hp) hY) (fun i hi => by rw [getD_rep] at hi; cases hi)⟩

/-! First: bit by bit. -/
def orK (b : Nat) (S : List Bool) (F : List Nat) : Nat → List Nat
  | 0 => F
  | k + 1 => if S.getD k false = true then up (orK b S F k) k b else orK b S F k
theorem orK_len {b : Nat} {S : List Bool} {F : List Nat} : ∀ {k : Nat}, (orK b S F k).length = F.length := by
  intro k
  induction k with
  | zero => rfl
  | succ k ih => rw [orK]; split; · rw [up_len, ih]
                 · exact ih
theorem orK_get {b : Nat} {S : List Bool} {F : List Nat} : ∀ {k : Nat}, k ≤ F.length → ∀ j, (orK b S F k).getD j 0 = if j < k ∧ S.getD j false = true then F.getD j 0 ||| b else F.getD j 0 := by
  intro k
  induction k with
  | zero => intro _ j; rw [if_neg (by omega)]; rfl
  | succ k ih =>
    intro hk j
    have ih := ih (by omega)
    rw [orK]
    split
    · rename_i hs
      rw [up_get j (by rw [orK_len]; omega)]
      by_cases e : k = j
      · subst e
        rw [if_pos rfl, ih k, if_neg (by omega), if_pos ⟨by omega, hs⟩]
      · rw [if_neg e, ih j]
        by_cases h1 : j < k ∧ S.getD j false = true
        · rw [if_pos h1, if_pos ⟨by omega, h1.2⟩]
        · rw [if_neg h1, if_neg (fun h => h1 ⟨by omega, h.2⟩)]
    · rename_i hs
      rw [ih j]
      by_cases h1 : j < k ∧ S.getD j false = true
      · rw [if_pos h1, if_pos ⟨by omega, h1.2⟩]
      · rw [if_neg h1, if_neg (fun h => h1 ⟨by
          have : j ≠ k := fun e => by subst e; exact hs h.2
          omega, h.2⟩)]
/-- Up to the terminal t. -/
structure Upt (l : List Pr) (N : Nat) (E M : List Bool) (t : Nat) (F : List Nat) : Prop where
  len : F.length = N
  lo : ∀ u, u < t → LT l E M u (fun i => (F.getD i 0).testBit u)
  hi : ∀ u, t ≤ u → ∀ i, (F.getD i 0).testBit u = false
  lt : ∀ i, F.getD i 0 < 2 ^ t
theorem Upt.init {l : List Pr} {N : Nat} {E M : List Bool} : Upt l N E M 0 (List.replicate N 0) :=
  ⟨by simp, fun u h => by omega, fun u _ i => by rw [getD_rep]; simp, fun i => by rw [getD_rep]; simp⟩
theorem Upt.next {l : List Pr} {N : Nat} {E M : List Bool} {t : Nat} {F : List Nat} {S : List Bool} (h : Upt l N E M t F) (hS : S.length = N) (hl : LT l E M t (fun i => S.getD i false)) : Upt l N E M (t + 1) (orK (2 ^ t) S F N) := by
  have hget := orK_get (b := 2 ^ t) (S := S) (F := F) (k := N) (by rw [h.len]; exact Nat.le_refl _)
  have hbit : ∀ u i, ((orK (2 ^ t) S F N).getD i 0).testBit u = ((F.getD i 0).testBit u || (decide (u = t) && S.getD i false)) := by
    intro u i
    rw [hget i]
    by_cases h1 : i < N ∧ S.getD i false = true
    · rw [if_pos h1, Nat.testBit_or, Nat.testBit_two_pow, h1.2, Bool.and_true]
      congr 1
      rw [decide_eq_decide]; exact ⟨fun h => h.symm, fun h => h.symm⟩
    · rw [if_neg h1]
      have : S.getD i false = false := by
        cases hs : S.getD i false
        · rfl
        · exfalso
          apply h1
          refine ⟨?_, hs⟩
          apply Classical.byContradiction
          intro hn
          rw [List.getD_eq_getElem?_getD, List.getElem?_eq_none (by omega)] at hs
          cases hs
      rw [this]; simp
  refine ⟨by rw [orK_len]; exact h.len, fun u hu => ?_, fun u hu i => ?_, fun i => ?_⟩
  · by_cases e : u = t
    · subst e
      have : (fun i => ((orK (2 ^ u) S F N).getD i 0).testBit u) = fun i => S.getD i false := by
        funext i
        rw [hbit, h.hi u (Nat.le_refl _) i]; simp
      rw [this]; exact hl
    · have : (fun i => ((orK (2 ^ t) S F N).getD i 0).testBit u) = fun i => (F.getD i 0).testBit u := by
        funext i
        rw [hbit]; simp [e]
      rw [this]; exact h.lo u (by omega)
  · rw [hbit, h.hi u (by omega) i]
    simp; omega
  · rw [hget i]
    have h1 := h.lt i
    have h2 : (2 : Nat) ^ t < 2 ^ (t + 1) := Nat.pow_lt_pow_right (by decide) (by omega)
    split
    · exact Nat.or_lt_two_pow (by omega) h2
    · omega
/-- No symbol begins with what is no terminal. -/
theorem LT_none {l : List Pr} {E M : List Bool} {t : Nat} (h : ∀ p ∈ l, ∀ x ∈ p.2, x.1 = 1 → x.2.toNat ≠ t) : LT l E M t (fun _ => false) := by
  refine ⟨fun p hp _ hb => ?_, fun S' _ i hi => by cases hi⟩
  have : ∀ b : List (Int × Int), (∀ x ∈ b, x.1 = 1 → x.2.toNat ≠ t) → begB E (fun _ => false) t b = false := by
    intro b
    induction b with
    | nil => intro _; rfl
    | cons x r ih =>
      intro hx
      rw [begB]
      split
      · exact decide_eq_false (hx x (.head _) ‹_›)
      · rw [if_neg (by simp)]
        split
        · exact ih (fun y hy => hx y (.tail _ hy))
        · rfl
  rw [this p.2 (h p hp)] at hb
  cases hb
theorem Upt.done {l : List Pr} {N : Nat} {E M : List Bool} {t : Nat} {F : List Nat} (h : Upt l N E M t F) (ht : ∀ p ∈ l, ∀ x ∈ p.2, x.1 = 1 → x.2.toNat < t) : LF l N E M F := by
  refine ⟨h.len, fun u => ?_⟩
  by_cases hu : u < t
  · exact h.lo u hu
  · have : (fun i => (F.getD i 0).testBit u) = fun _ => false := by funext i; exact h.hi u (by omega) i
    have h2 := LT_none (l := l) (E := E) (M := M) (t := u) (fun p hp x hx h1 => by have := ht p hp x hx h1; omega)
    rw [this]
    refine ⟨h2.1, fun S _ i hi => ?_⟩
    rw [h.hi u (by omega) i] at hi; cases hi

/-! Reach: as many rounds as there are nonterminals. -/
theorem cnt_le_of {X Y : List Bool} (hl : X.length = Y.length) (h : le X Y) : cnt X ≤ cnt Y ∧ (X ≠ Y → cnt X < cnt Y) := by
  induction X generalizing Y with
  | nil => cases Y with
    | nil => exact ⟨Nat.le_refl _, fun h => absurd rfl h⟩
    | cons => simp at hl
  | cons a r ih =>
    cases Y with
    | nil => simp at hl
    | cons b s =>
      have h1 := ih (Y := s) (by simpa using hl) (fun i hi => by have := h (i + 1); simpa using this (by simpa using hi))
      have h0 : a = true → b = true := fun ha => by have := h 0; simpa using this (by simpa using ha)
      have e1 : cnt (a :: r) = (if a = true then 1 else 0) + cnt r := by unfold cnt; cases a <;> simp; omega
      have e2 : cnt (b :: s) = (if b = true then 1 else 0) + cnt s := by unfold cnt; cases b <;> simp; omega
      rw [e1, e2]
      refine ⟨?_, fun hne => ?_⟩
      · cases a <;> cases b <;> simp at h0 ⊢ <;> omega
      · cases a <;> cases b <;> simp at h0 ⊢ hne <;> first | omega | (have := h1.2 hne; omega)
structure Rch (l : List Pr) (N k : Nat) (R : List Bool) : Prop where
  len : R.length = N
  r0 : R.getD 0 false = true
  le : ∀ Y, clR l Y → le R Y
  go : rdR l R = R ∨ k + 1 ≤ cnt R
theorem Rch.init {l : List Pr} {N : Nat} (hN : 0 < N) : Rch l N 0 ((List.replicate N false).set 0 true) := by
  refine ⟨by simp, by rw [getD_rep0 hN]; rfl, le_rep0 hN, .inr ?_⟩
  rw [cnt_set (by simpa using hN) getD_rep]; omega
theorem Rch.next {l : List Pr} {N k : Nat} {R : List Bool} (h : Rch l N k R) : Rch l N (k + 1) (rdR l R) := by
  refine ⟨by rw [rdR_len]; exact h.len, rdR_ge 0 h.r0, fun Y hY => rdR_le hY (fun p hp => hp) (h.le Y hY), ?_⟩
  by_cases e : rdR l R = R
  · left; rw [e, e]
  · right
    have h1 := (cnt_le_of (X := R) (Y := rdR l R) rdR_len.symm rdR_ge).2 (fun e2 => e e2.symm)
    rcases h.go with h2 | h2
    · exact absurd h2 e
    · omega
theorem Rch.done {l : List Pr} {N : Nat} {R : List Bool} (h : Rch l N N R) : rdR l R = R := by
  rcases h.go with h1 | h1
  · exact h1
  · have := cnt_le R; have := h.len; omega

/-! Follow: a pass. -/
theorem folB_prog {E : List Bool} {F : List Nat} {h : Nat} (hF : ∀ i, F.getD i 0 < 2 ^ 64) {r : List (Int × Int)} : ∀ {W0 W : List Nat} {m : Bool}, (∀ x ∈ r, (x.1 = 1 → x.2.toNat < 64) ∧ (x.1 = 2 → x.2.toNat < W.length)) → (∀ i, W.getD i 0 < 2 ^ 64) → ProgN (2 ^ 64) W0 W m → ∃ m', ProgN (2 ^ 64) W0 (folB E F h r W) m' := by
  induction r with
  | nil => intro W0 W m _ _ hp; exact ⟨m, hp⟩
  | cons x r ih =>
    intro W0 W m hx hW hp
    rw [folB_cons]
    split
    · rename_i h2
      have hb := beg_lt (k := 64) (E := E) (F := F) (b := W.getD h 0) (body := r) hF (hW h) (fun y hy => (hx y (.tail _ hy)).1)
      exact ih (fun y hy => by rw [up_len]; exact hx y (.tail _ hy)) (up_lt hW hb) (hp.up ((hx x (.head _)).2 h2) (Nat.or_lt_two_pow (hW _) hb))
    · exact ih (fun y hy => hx y (.tail _ hy)) hW hp
theorem fol_prog {E : List Bool} {F : List Nat} (hF : ∀ i, F.getD i 0 < 2 ^ 64) {l : List Pr} : ∀ {W0 W : List Nat} {m : Bool}, (∀ p ∈ l, ∀ x ∈ p.2, (x.1 = 1 → x.2.toNat < 64) ∧ (x.1 = 2 → x.2.toNat < W.length)) → (∀ i, W.getD i 0 < 2 ^ 64) → ProgN (2 ^ 64) W0 W m → ∃ m', ProgN (2 ^ 64) W0 (fol E F l W) m' := by
  induction l with
  | nil => intro W0 W m _ _ hp; exact ⟨m, hp⟩
  | cons p l ih =>
    intro W0 W m hx hW hp
    obtain ⟨m1, h1⟩ := folB_prog (E := E) (h := p.1.toNat) hF (hx p (.head _)) hW hp
    exact ih (W := folB E F p.1.toNat p.2 W) (fun q hq x hxx => by rw [folB_len]; exact hx q (.tail _ hq) x hxx) (folB_lt hF (fun x hxx => (hx p (.head _) x hxx).1) hW) h1
theorem fol_room {E : List Bool} {F : List Nat} (hF : ∀ i, F.getD i 0 < 2 ^ 64) {l : List Pr} {N : Nat} (hok : ∀ p ∈ l, okP N p) {W : List Nat} (hl : W.length = N) (hW : ∀ i, W.getD i 0 < 2 ^ 64) : room (2 ^ 64) (fol E F l W) ≤ room (2 ^ 64) W ∧ (fol E F l W ≠ W → room (2 ^ 64) (fol E F l W) < room (2 ^ 64) W) := by
  obtain ⟨m, h1, h2⟩ := fol_prog (E := E) hF (l := l) (W0 := W) (W := W) (m := false) (fun p hp x hx => ⟨okP_lt (hok p hp) x hx, fun h => by rw [hl]; exact okP_body hok p hp x hx h⟩) hW (ProgN.refl _ _)
  cases m
  · rw [h1 rfl]; exact ⟨Nat.le_refl _, fun h => absurd rfl h⟩
  · have := h2 rfl; exact ⟨by omega, fun _ => this⟩
end Fc
end Go.Proofs.Ytkhjncbjdldpbaa

/-
  AllFacts of the reference.
-/
namespace Go.Proofs.Ytkhjncbjdldpbaa
set_option linter.unusedVariables false
set_option linter.unusedSimpArgs false
open Go.ChangeShapes Go.WideShapes Go.ChangeAt Go.RowKit

def RetFr (l : List Fc.Pr) (N : Nat) (w : World) (e : Ending) (w' : World) : Prop := ∃ gE gF gW gR gM E Fs W R M, e = .returned (.agg #[.slice (some ⟨gE, 0, none⟩) N N, .slice (some ⟨gF, 0, none⟩) N N, .slice (some ⟨gW, 0, none⟩) N N, .slice (some ⟨gR, 0, none⟩) N N, .slice (some ⟨gM, 0, none⟩) N N]) ∧ Hid (Fc.Good l N E Fs W R M) ∧
  St w w' [Fc.aB (.slice (some ⟨gE, 0, none⟩) N N) E, Fc.aU (.slice (some ⟨gF, 0, none⟩) N N) Fs, Fc.aU (.slice (some ⟨gW, 0, none⟩) N N) W, Fc.aB (.slice (some ⟨gR, 0, none⟩) N N) R, Fc.aB (.slice (some ⟨gM, 0, none⟩) N N) M]
def Fc.rks (N : Nat) : List Mk := [.make 1 20 N 4 (.bool false), .make 3 22 N 4 (.bool false), .make 5 24 N 4 (.bool false), .make 7 26 N 130 (.int .u64 0), .make 9 28 N 130 (.int .u64 0), .cel 11 4 68 #[.slice none 0 0, .slice none 0 0, .slice none 0 0, .slice none 0 0, .slice none 0 0]]
theorem Fc.callC {c : Nat} {fn : Func} (hf : Try.prog.funcs[c]? = some fn) (hn : (fn.name == "runtime.NumGoroutine") = false) (hb : fn.body.isNone = false) (args : Array Value) (W : World) : (callFunc c args).run Try.prog W = .ok (.enter c args) W := by
  have hn2 : ¬ fn.name = "runtime.NumGoroutine" := fun e => by rw [e] at hn; simp at hn
  have hb2 : ¬ fn.body = none := fun e => by rw [e] at hb; cases hb
  simp [callFunc, go_sem, hf, hn2, hb2]

def Fc.encU : Enc Nat := (Enc.int .u64).via (fun n : Nat => (n : Int))
theorem Fc.encU_of {F : Nat → Prop} {w : World} {n : Nat} (h : n < 2 ^ 64) : Fc.encU.R F w (Fc.uV n).cells.toList n := by
  refine ⟨rfl, ?_⟩
  simp [Lit.wf, IntKind.min, IntKind.max, IntKind.signed, IntKind.bits]
  omega
theorem Fc.mem_lt {W : List Nat} {K : Nat} (h : ∀ i, W.getD i 0 < K) : ∀ a ∈ W, a < K := fun a ha => by
  obtain ⟨i, hi, rfl⟩ := List.getElem_of_mem ha
  have := h i
  rw [List.getD_eq_getElem?_getD, List.getElem?_eq_getElem hi] at this
  exact this
theorem Fc.u64E : ET Try.prog 66 130 1 8 := ET.mk' Try.underlying66 (z := .int .u64 0) (by kernel_rfl) rfl (by decide)
/-- Two ways that meet. -/
theorem Fc.share {P A : Nat → Nat → Nat → Nat → Nat → Nat → World → Prop} {G : Prop} (h1 : (∀ a b c d e f W, A a b c d e f W → P a b c d e f W) → G) (h2 : ∀ a b c d e f W, A a b c d e f W → P a b c d e f W) : G := h1 h2

set_option maxRecDepth 100000 in
set_option maxHeartbeats 4000000 in
theorem fcRef_any (t n : Int) (vp : Value) (l : List Fc.Pr) (w : World) (F : Nat → Prop) (h : Enc.prods.R F w [vp] l) (he : Gr.err t n l = 0) :
    Calls Try.prog 27 #[.agg #[.int .i64 t, .int .i64 n, vp]] w (RetFr l n.toNat w) := by
  have hok := Fc.okP_of he
  obtain ⟨z1, z2, z3, z4, hl40, hz6⟩ := Gr.err_zero he
  obtain ⟨N, rfl⟩ := Int.eq_ofNat_of_zero_le (show 0 ≤ n by omega)
  obtain ⟨t, rfl⟩ := Int.eq_ofNat_of_zero_le z1
  rw [Int.toNat_natCast] at hok ⊢
  have hT : ∀ p ∈ l, ∀ x ∈ p.2, x.1 = 1 → x.2.toNat < t := fun p hp x hx h1 => by
    rcases Gr.right_iff.1 ((hz6 p hp).2.2.2 x hx) with ⟨-, a, b⟩ | ⟨a, -⟩ <;> omega
  have hN : 0 < N := by omega
  have hN20 : N ≤ 20 := by omega
  have hT30 : (t : Int) ≤ 30 := by omega
  have HT := Lib.hid hT
  have HP := Lib.hid h
  obtain ⟨ap, bp, op, cp, rfl, -, p3, p4⟩ := slProds h
  have P3 := Lib.hid p3; have P4 := Lib.hid p4
  have HOK := Lib.hid hok; have HL := Lib.hid hl40; have HN := Lib.hid hN; have HN20 := Lib.hid hN20
  clear h he hok hl40 hT p3 p4 hz6
  have HST := Lib.hid (((St.init w).alloc #[.int .i64 t, .int .i64 N, .slice ap l.length cp] 24).alloc #[.slice none 0 0, .slice none 0 0, .slice none 0 0, .slice none 0 0, .slice none 0 0] 68)
  simp only [World.size_alloc] at HST
  obtain ⟨g0, g1, g2⟩ := HST.out.at3 1 rfl
  go_enter Try.func27, Try.ntmps27
  go_wp2
  clear g0 g1 g2
  refine wp_region_any (by kernel_rfl) ?_
  have HSTD := Lib.hid HST.out.drew
  generalize hW1 : (w.alloc (.cells #[.int .i64 t, .int .i64 N, .slice ap l.length cp] 24)).alloc (.cells #[.slice none 0 0, .slice none 0 0, .slice none 0 0, .slice none 0 0, .slice none 0 0] 68) = w1 at *
  clear hW1
  change wpAny _ _ _ _ _ _ _ w1.drew
  refine wpAny_take (i := 0) (v := ?_) rfl (by kernel_rfl) (by kernel_rfl) (by kernel_rfl) (fun _ _ _ h => h) (Or.inl ⟨by rfl, ?_⟩) ?_
  rotate_left; focus (intro w; go_simp; try (with_reducible rfl); done)
  try simp only [List.getElem_toArray, List.getElem_cons_zero, List.getElem_cons_succ, Act.put, List.setIfInBounds_toArray, List.set_cons_zero, List.set_cons_succ]
  refine wpAny_take (i := 2) (v := ?_) rfl (by kernel_rfl) (by kernel_rfl) (by kernel_rfl) (fun _ _ _ h => h) (Or.inl ⟨by rfl, ?_⟩) ?_
  rotate_left; focus (intro w; go_simp; try (with_reducible rfl); done)
  try simp only [List.getElem_toArray, List.getElem_cons_zero, List.getElem_cons_succ, Act.put, List.setIfInBounds_toArray, List.set_cons_zero, List.set_cons_succ]
  refine wpAny_take (i := 4) (v := ?_) rfl (by kernel_rfl) (by kernel_rfl) (by kernel_rfl) (fun _ _ _ h => h) (Or.inl ⟨by rfl, ?_⟩) ?_
  rotate_left; focus (intro w; go_simp; try (with_reducible rfl); done)
  try simp only [List.getElem_toArray, List.getElem_cons_zero, List.getElem_cons_succ, Act.put, List.setIfInBounds_toArray, List.set_cons_zero, List.set_cons_succ]
  refine wpAny_take (i := 6) (v := ?_) rfl (by kernel_rfl) (by kernel_rfl) (by kernel_rfl) (fun _ _ _ h => h) (Or.inl ⟨by rfl, ?_⟩) ?_
  rotate_left; focus (intro w; go_simp; try (with_reducible rfl); done)
  try simp only [List.getElem_toArray, List.getElem_cons_zero, List.getElem_cons_succ, Act.put, List.setIfInBounds_toArray, List.set_cons_zero, List.set_cons_succ]
  refine wpAny_take (i := 8) (v := ?_) rfl (by kernel_rfl) (by kernel_rfl) (by kernel_rfl) (fun _ _ _ h => h) (Or.inl ⟨by rfl, ?_⟩) ?_
  rotate_left; focus (intro w; go_simp; try (with_reducible rfl); done)
  try simp only [List.getElem_toArray, List.getElem_cons_zero, List.getElem_cons_succ, Act.put, List.setIfInBounds_toArray, List.set_cons_zero, List.set_cons_succ]
  refine St.makes (w0 := w) (Fc.rks N) [[1, 3, 5, 7, 9], [1, 3, 5, 7, 9, 11]] 2 HSTD.out rfl (by kernel_rfl) (by kernel_rfl) (by kernel_rfl) ?_ ?_
  · intro m hm
    simp only [Fc.rks, List.mem_cons, List.not_mem_nil, or_false] at hm
    have h64 : (8 : Int) * N ≤ 140737488355328 := by have := HN20.out; omega
    have h1 : (1 : Int) * N ≤ 140737488355328 := by have := HN20.out; omega
    rcases hm with rfl | rfl | rfl | rfl | rfl | rfl
    · exact Mk.does_make rfl rfl rfl rfl Try.underlying52 (by kernel_rfl) rfl (by decide) h1 rfl rfl
    · exact Mk.does_make rfl rfl rfl rfl Try.underlying52 (by kernel_rfl) rfl (by decide) h1 rfl rfl
    · exact Mk.does_make rfl rfl rfl rfl Try.underlying52 (by kernel_rfl) rfl (by decide) h1 rfl rfl
    · exact Mk.does_make rfl rfl rfl rfl Try.underlying66 (by kernel_rfl) rfl (by decide) h64 rfl rfl
    · exact Mk.does_make rfl rfl rfl rfl Try.underlying66 (by kernel_rfl) rfl (by decide) h64 rfl rfl
    · exact Mk.does_cel rfl rfl rfl (fun b w => by kernel_rfl)
  refine Fc.share (P := ?PSh) (A := fun gE gM gR gF gW gB W => St w W (aCel gB 68 #[.slice (some ⟨gE, 0, none⟩) N N, .slice (some ⟨gF, 0, none⟩) N N, .slice (some ⟨gW, 0, none⟩) N N, .slice (some ⟨gR, 0, none⟩) N N, .slice (some ⟨gM, 0, none⟩) N N] :: aOwn 4 1 (.slice (some ⟨gE, 0, none⟩) N N) (List.replicate N (.bool false)) :: aOwn 4 1 (.slice (some ⟨gM, 0, none⟩) N N) (List.replicate N (.bool false)) :: aOwn 4 1 (.slice (some ⟨gR, 0, none⟩) N N) (List.replicate N (.bool false)) :: aOwn 130 1 (.slice (some ⟨gF, 0, none⟩) N N) (List.replicate N (.int .u64 0)) :: aOwn 130 1 (.slice (some ⟨gW, 0, none⟩) N N) (List.replicate N (.int .u64 0)) :: [aCel (w.heap.size + 1) 68 #[.slice none 0 0, .slice none 0 0, .slice none 0 0, .slice none 0 0, .slice none 0 0], aCel w.heap.size 24 #[.int .i64 t, .int .i64 N, .slice ap l.length cp]])) (fun REST => ?h1) ?h2
  case h1 =>
    intro js hjs k ds hds hk w5 hst5
    simp only [List.mem_cons, List.not_mem_nil, or_false] at hjs
    rcases hjs with rfl | rfl
    case' inl =>
      obtain ⟨gE, d1, rfl, h1⟩ := Mk.split (hds.trans rfl)
      obtain ⟨gM, d2, rfl, h2⟩ := Mk.split h1
      obtain ⟨gR, d3, rfl, h3⟩ := Mk.split h2
      obtain ⟨gF, d4, rfl, h4⟩ := Mk.split h3
      obtain ⟨gW, d5, rfl, h5⟩ := Mk.split h4
      obtain rfl := Mk.done h5
      obtain rfl : k = 1 := by simp [Fc.rks] at hk; omega
      clear hds h1 h2 h3 h4 h5 hk
      simp only [Mk.lst, Mk.puts, List.map_cons, List.map_nil, List.foldl_cons, List.foldl_nil, Mk.make, Mk.cel, Act.put, List.setIfInBounds_toArray, List.set_cons_zero, List.set_cons_succ]
      refine wpAny_take (i := 10) (v := ?_) rfl (by kernel_rfl) (by kernel_rfl) (by kernel_rfl) (fun _ _ _ h => h) (Or.inl ⟨by rfl, ?_⟩) ?_
      rotate_left; focus (intro w; go_simp; try (with_reducible rfl); done)
      try simp only [List.getElem_toArray, List.getElem_cons_zero, List.getElem_cons_succ, Act.put, List.setIfInBounds_toArray, List.set_cons_zero, List.set_cons_succ]
      refine wpAny_ready (rs := [11]) (by kernel_rfl) (by simp) ?_
      refine AllReady.cons rfl (fun K hK => ?_) AllReady.nil
      go_simp
      refine hK _ _ ?_
      clear hK K
      have hst6 := Lib.hid (hst5.alloc #[.slice none 0 0, .slice none 0 0, .slice none 0 0, .slice none 0 0, .slice none 0 0] 68)
      generalize w5.heap.size = gB at *
      generalize w5.alloc (.cells #[.slice none 0 0, .slice none 0 0, .slice none 0 0, .slice none 0 0, .slice none 0 0] 68) = W at *
      clear hst5
      obtain ⟨x0, x1, x2, x3, x4⟩ := hst6.out.at5 0 rfl
      have f0 := hst6.out.celFree 0
      have f1 := hst6.out.celFree 1
      have f2 := hst6.out.celFree 2
      have f3 := hst6.out.celFree 3
      have f4 := hst6.out.celFree 4
      refine wpAny_ready (rs := [12]) (by kernel_rfl) (by simp) ?_
      refine AllReady.cons rfl (fun K hK => ?_) AllReady.nil
      go_simp
      refine hK _ _ ?_
      clear hK K x0 x1 x2 x3 x4 f0 f1 f2 f3 f4
      have hst7 := ((((hst6.out.setCel 0 (.slice (some ⟨gE, 0, none⟩) N N)).setCel 1 (.slice (some ⟨gF, 0, none⟩) N N)).setCel 2 (.slice (some ⟨gW, 0, none⟩) N N)).setCel 3 (.slice (some ⟨gR, 0, none⟩) N N)).setCel 4 (.slice (some ⟨gM, 0, none⟩) N N)
      refine wpAny_done (by kernel_rfl) ?_ _
      generalize (((((W.setCell ⟨gB, 0, none⟩ (.slice (some ⟨gE, 0, none⟩) N N)).setCell ⟨gB, 1, none⟩ (.slice (some ⟨gF, 0, none⟩) N N)).setCell ⟨gB, 2, none⟩ (.slice (some ⟨gW, 0, none⟩) N N)).setCell ⟨gB, 3, none⟩ (.slice (some ⟨gR, 0, none⟩) N N)).setCell ⟨gB, 4, none⟩ (.slice (some ⟨gM, 0, none⟩) N N)) = W7 at *
      clear hst6
      exact REST gE gM gR gF gW gB W7 (hst7.pick (ρ := aCel gB 68 #[.slice (some ⟨gE, 0, none⟩) N N, .slice (some ⟨gF, 0, none⟩) N N, .slice (some ⟨gW, 0, none⟩) N N, .slice (some ⟨gR, 0, none⟩) N N, .slice (some ⟨gM, 0, none⟩) N N] :: aOwn 4 1 (.slice (some ⟨gE, 0, none⟩) N N) (List.replicate N (.bool false)) :: aOwn 4 1 (.slice (some ⟨gM, 0, none⟩) N N) (List.replicate N (.bool false)) :: aOwn 4 1 (.slice (some ⟨gR, 0, none⟩) N N) (List.replicate N (.bool false)) :: aOwn 130 1 (.slice (some ⟨gF, 0, none⟩) N N) (List.replicate N (.int .u64 0)) :: aOwn 130 1 (.slice (some ⟨gW, 0, none⟩) N N) (List.replicate N (.int .u64 0)) :: [aCel (w.heap.size + 1) 68 #[.slice none 0 0, .slice none 0 0, .slice none 0 0, .slice none 0 0, .slice none 0 0], aCel w.heap.size 24 #[.int .i64 t, .int .i64 N, .slice ap l.length cp]]) [0, 1, 2, 3, 4, 5, 6, 7] 8 rfl rfl)
    case' inr =>
      obtain ⟨gE, d1, rfl, h1⟩ := Mk.split (hds.trans rfl)
      obtain ⟨gM, d2, rfl, h2⟩ := Mk.split h1
      obtain ⟨gR, d3, rfl, h3⟩ := Mk.split h2
      obtain ⟨gF, d4, rfl, h4⟩ := Mk.split h3
      obtain ⟨gW, d5, rfl, h5⟩ := Mk.split h4
      obtain ⟨gB, d6, rfl, h6⟩ := Mk.split h5
      obtain rfl := Mk.done h6
      obtain rfl : k = 0 := by simp [Fc.rks] at hk; omega
      clear hds h1 h2 h3 h4 h5 h6 hk
      simp only [Mk.lst, Mk.puts, List.map_cons, List.map_nil, List.foldl_cons, List.foldl_nil, Mk.make, Mk.cel, Act.put, List.setIfInBounds_toArray, List.set_cons_zero, List.set_cons_succ]
      refine wpAny_take (i := 10) (v := ?_) rfl (by kernel_rfl) (by kernel_rfl) (by kernel_rfl) (fun _ _ _ h => h) (Or.inl ⟨by rfl, ?_⟩) ?_
      rotate_left; focus (intro w; go_simp; try (with_reducible rfl); done)
      try simp only [List.getElem_toArray, List.getElem_cons_zero, List.getElem_cons_succ, Act.put, List.setIfInBounds_toArray, List.set_cons_zero, List.set_cons_succ]
      have hst6 := Lib.hid (hst5.pick (ρ := aCel gB 68 #[.slice none 0 0, .slice none 0 0, .slice none 0 0, .slice none 0 0, .slice none 0 0] :: aOwn 4 1 (.slice (some ⟨gE, 0, none⟩) N N) (List.replicate N (.bool false)) :: aOwn 4 1 (.slice (some ⟨gM, 0, none⟩) N N) (List.replicate N (.bool false)) :: aOwn 4 1 (.slice (some ⟨gR, 0, none⟩) N N) (List.replicate N (.bool false)) :: aOwn 130 1 (.slice (some ⟨gF, 0, none⟩) N N) (List.replicate N (.int .u64 0)) :: aOwn 130 1 (.slice (some ⟨gW, 0, none⟩) N N) (List.replicate N (.int .u64 0)) :: [aCel (w.heap.size + 1) 68 #[.slice none 0 0, .slice none 0 0, .slice none 0 0, .slice none 0 0, .slice none 0 0], aCel w.heap.size 24 #[.int .i64 t, .int .i64 N, .slice ap l.length cp]]) [5, 0, 1, 2, 3, 4, 6, 7] 8 rfl rfl)
      generalize w5 = W at *
      clear hst5
      obtain ⟨x0, x1, x2, x3, x4⟩ := hst6.out.at5 0 rfl
      have f0 := hst6.out.celFree 0
      have f1 := hst6.out.celFree 1
      have f2 := hst6.out.celFree 2
      have f3 := hst6.out.celFree 3
      have f4 := hst6.out.celFree 4
      refine wpAny_ready (rs := [12]) (by kernel_rfl) (by simp) ?_
      refine AllReady.cons rfl (fun K hK => ?_) AllReady.nil
      go_simp
      refine hK _ _ ?_
      clear hK K x0 x1 x2 x3 x4 f0 f1 f2 f3 f4
      have hst7 := ((((hst6.out.setCel 0 (.slice (some ⟨gE, 0, none⟩) N N)).setCel 1 (.slice (some ⟨gF, 0, none⟩) N N)).setCel 2 (.slice (some ⟨gW, 0, none⟩) N N)).setCel 3 (.slice (some ⟨gR, 0, none⟩) N N)).setCel 4 (.slice (some ⟨gM, 0, none⟩) N N)
      refine wpAny_done (by kernel_rfl) ?_ _
      generalize (((((W.setCell ⟨gB, 0, none⟩ (.slice (some ⟨gE, 0, none⟩) N N)).setCell ⟨gB, 1, none⟩ (.slice (some ⟨gF, 0, none⟩) N N)).setCell ⟨gB, 2, none⟩ (.slice (some ⟨gW, 0, none⟩) N N)).setCell ⟨gB, 3, none⟩ (.slice (some ⟨gR, 0, none⟩) N N)).setCell ⟨gB, 4, none⟩ (.slice (some ⟨gM, 0, none⟩) N N)) = W7 at *
      clear hst6
      exact REST gE gM gR gF gW gB W7 hst7
  case h2 =>
    intro gE gM gR gF gW gB W7 hst7
    have HST := Lib.hid hst7
    clear hst7
    have hst8 : St w W7 [Fc.aB (.slice (some ⟨gE, 0, none⟩) N N) (List.replicate N false), Fc.aB (.slice (some ⟨gM, 0, none⟩) N N) (List.replicate N false), Fc.aB (.slice (some ⟨gR, 0, none⟩) N N) (List.replicate N false), Fc.aU (.slice (some ⟨gF, 0, none⟩) N N) (List.replicate N 0), Fc.aU (.slice (some ⟨gW, 0, none⟩) N N) (List.replicate N 0), aCel gB 68 #[.slice (some ⟨gE, 0, none⟩) N N, .slice (some ⟨gF, 0, none⟩) N N, .slice (some ⟨gW, 0, none⟩) N N, .slice (some ⟨gR, 0, none⟩) N N, .slice (some ⟨gM, 0, none⟩) N N], aCel (w.heap.size + 1) 68 #[.slice none 0 0, .slice none 0 0, .slice none 0 0, .slice none 0 0, .slice none 0 0], aCel w.heap.size 24 #[.int .i64 t, .int .i64 N, .slice ap l.length cp]] := by
      unfold Fc.aB Fc.aU
      simp only [List.map_replicate]
      exact HST.out.pick [1, 2, 3, 4, 5, 0, 6, 7] 8 rfl rfl
    clear HST HSTD
    have HST := Lib.hid hst8
    obtain ⟨x0, x1, x2, x3, x4⟩ := hst8.at5 5 rfl
    obtain ⟨g0, g1, g2⟩ := hst8.at3 7 rfl
    clear hst8
    go_wp2_with (fail)
    go_at_call 75
    refine (fcFix_any w _ t N _ l N 76 gE N N #[.pointer (some ⟨gB, 0, none⟩)] (Fc.holdA false) (List.replicate N false) [aCel gB 68 #[.slice (some ⟨gE, 0, none⟩) N N, .slice (some ⟨gF, 0, none⟩) N N, .slice (some ⟨gW, 0, none⟩) N N, .slice (some ⟨gR, 0, none⟩) N N, .slice (some ⟨gM, 0, none⟩) N N], Fc.aB (.slice (some ⟨gM, 0, none⟩) N N) (List.replicate N false), Fc.aB (.slice (some ⟨gR, 0, none⟩) N N) (List.replicate N false), Fc.aU (.slice (some ⟨gF, 0, none⟩) N N) (List.replicate N 0), Fc.aU (.slice (some ⟨gW, 0, none⟩) N N) (List.replicate N 0), aCel (w.heap.size + 1) 68 #[.slice none 0 0, .slice none 0 0, .slice none 0 0, .slice none 0 0, .slice none 0 0], aCel w.heap.size 24 #[.int .i64 t, .int .i64 N, .slice ap l.length cp]] F HP.out HL.out HOK.out (by simp) rfl (Fc.callC Try.func76 (by kernel_rfl) (by kernel_rfl)) (fun W Y A p vb hY hb hp hs => ?_) (HST.out.pick [0, 5, 1, 2, 3, 4, 6, 7] 8 rfl rfl)).mono ?_
    · refine (fcC1_any w W gB N N gE p.1 vb _ _ _ _ p.2 Y _ F (by rw [hY]) hb (fun x hx => ?_) (hs.pick [0, 2, 1] 3 rfl rfl)).mono ?_
      · rw [hY]
        rcases (HOK.out p hp).2.2 x hx with ⟨a, b, -⟩ | ⟨a, b, c⟩
        · exact .inl ⟨a, b⟩
        · exact .inr ⟨a, b, c⟩
      · rintro e w' ⟨rfl, hs'⟩
        exact ⟨rfl, hs'.pick [0, 2, 1] 3 rfl rfl⟩
    rintro e w9 ⟨E, rfl, hEl, hEf, hEq, hst9⟩
    have HE := Lib.hid (Fc.LA_fix HOK.out hEl hEf hEq)
    have HEl := Lib.hid hEl
    have hst10 := hst9.pick (ρ := [Fc.aB (.slice (some ⟨gE, 0, none⟩) N N) E, Fc.aB (.slice (some ⟨gM, 0, none⟩) N N) (List.replicate N false), Fc.aB (.slice (some ⟨gR, 0, none⟩) N N) (List.replicate N false), Fc.aU (.slice (some ⟨gF, 0, none⟩) N N) (List.replicate N 0), Fc.aU (.slice (some ⟨gW, 0, none⟩) N N) (List.replicate N 0), aCel gB 68 #[.slice (some ⟨gE, 0, none⟩) N N, .slice (some ⟨gF, 0, none⟩) N N, .slice (some ⟨gW, 0, none⟩) N N, .slice (some ⟨gR, 0, none⟩) N N, .slice (some ⟨gM, 0, none⟩) N N], aCel (w.heap.size + 1) 68 #[.slice none 0 0, .slice none 0 0, .slice none 0 0, .slice none 0 0, .slice none 0 0], aCel w.heap.size 24 #[.int .i64 t, .int .i64 N, .slice ap l.length cp]]) [0, 2, 3, 4, 5, 1, 6, 7] 8 rfl rfl
    have HST := Lib.hid hst10
    clear hst9 hEl hEf hEq x0 x1 x2 x3 x4 g0 g1 g2
    obtain ⟨x0, x1, x2, x3, x4⟩ := hst10.at5 5 rfl
    obtain ⟨g0, g1, g2⟩ := hst10.at3 7 rfl
    clear hst10
    have l0 := World.block_lt_of_cell? _ _ g0
    have l1 := World.block_lt_of_cell? _ _ x0
    have HST := Lib.hid (HST.out.alloc #[.func (.func 77) #[] #[.pointer (some ⟨gB, 0, none⟩)]] 156)
    have b5 := HST.out.celAt (i := 0) rfl
    go_wp2_with (fail)
    go_at_call 75
    generalize w9.heap.size = B5 at *
    refine (fcFix_any w _ t N _ l N 77 gM N N #[.pointer (some ⟨gB, 0, none⟩)] (Fc.holdA true) (List.replicate N false) [aCel gB 68 #[.slice (some ⟨gE, 0, none⟩) N N, .slice (some ⟨gF, 0, none⟩) N N, .slice (some ⟨gW, 0, none⟩) N N, .slice (some ⟨gR, 0, none⟩) N N, .slice (some ⟨gM, 0, none⟩) N N], Fc.aB (.slice (some ⟨gE, 0, none⟩) N N) E, Fc.aB (.slice (some ⟨gR, 0, none⟩) N N) (List.replicate N false), Fc.aU (.slice (some ⟨gF, 0, none⟩) N N) (List.replicate N 0), Fc.aU (.slice (some ⟨gW, 0, none⟩) N N) (List.replicate N 0), aCel (w.heap.size + 1) 68 #[.slice none 0 0, .slice none 0 0, .slice none 0 0, .slice none 0 0, .slice none 0 0], aCel w.heap.size 24 #[.int .i64 t, .int .i64 N, .slice ap l.length cp], aCel B5 156 #[.func (.func 77) #[] #[.pointer (some ⟨gB, 0, none⟩)]]] F HP.out HL.out HOK.out (by simp) rfl (Fc.callC Try.func77 (by kernel_rfl) (by kernel_rfl)) (fun W Y A p vb hY hb hp hs => ?_) (HST.out.pick [2, 6, 1, 3, 4, 5, 7, 8, 0] 9 rfl rfl)).mono ?_
    · refine (fcC2_any w W gB N N gM p.1 vb _ _ _ _ p.2 Y _ F (by rw [hY]) hb (fun x hx => ?_) (hs.pick [0, 2, 1] 3 rfl rfl)).mono ?_
      · rw [hY]
        rcases (HOK.out p hp).2.2 x hx with ⟨a, b, -⟩ | ⟨a, b, c⟩
        · exact .inl ⟨a, b⟩
        · exact .inr ⟨a, b, c⟩
      · rintro e w' ⟨rfl, hs'⟩
        exact ⟨rfl, hs'.pick [0, 2, 1] 3 rfl rfl⟩
    rintro e w10 ⟨M, rfl, hMl, hMf, hMq, hst11⟩
    have HM := Lib.hid (Fc.LA_fix HOK.out hMl hMf hMq)
    have HMl := Lib.hid hMl
    have hst12 := hst11.pick (ρ := [Fc.aB (.slice (some ⟨gE, 0, none⟩) N N) E, Fc.aB (.slice (some ⟨gM, 0, none⟩) N N) M, Fc.aB (.slice (some ⟨gR, 0, none⟩) N N) (List.replicate N false), Fc.aU (.slice (some ⟨gF, 0, none⟩) N N) (List.replicate N 0), Fc.aU (.slice (some ⟨gW, 0, none⟩) N N) (List.replicate N 0), aCel gB 68 #[.slice (some ⟨gE, 0, none⟩) N N, .slice (some ⟨gF, 0, none⟩) N N, .slice (some ⟨gW, 0, none⟩) N N, .slice (some ⟨gR, 0, none⟩) N N, .slice (some ⟨gM, 0, none⟩) N N], aCel (w.heap.size + 1) 68 #[.slice none 0 0, .slice none 0 0, .slice none 0 0, .slice none 0 0, .slice none 0 0], aCel w.heap.size 24 #[.int .i64 t, .int .i64 N, .slice ap l.length cp], aCel B5 156 #[.func (.func 77) #[] #[.pointer (some ⟨gB, 0, none⟩)]]]) [2, 0, 3, 4, 5, 1, 6, 7, 8] 9 rfl rfl
    clear hst11 hMl hMf hMq x0 x1 x2 x3 x4 g0 g1 g2 l0 l1 b5 HST
    have HST := Lib.hid hst12
    obtain ⟨x0, x1, x2, x3, x4⟩ := hst12.at5 5 rfl
    obtain ⟨g0, g1, g2⟩ := hst12.at3 7 rfl
    have hst13 := (show St w w10 (aOwn 4 1 (.slice (some ⟨gR, 0, none⟩) N N) ((List.replicate N false).map Value.bool) :: _) from hst12.pick [2, 0, 1, 3, 4, 5, 6, 7, 8] 9 rfl rfl)
    obtain ⟨c1, c2⟩ := hst13.cellOwn (f := Value.bool) (fun _ => rfl) 0 (by simp; exact HN.out) false
    have hst14 := (hst13.setOwn (f := Value.bool) (fun _ => rfl) 0 true).pick (ρ := [Fc.aB (.slice (some ⟨gE, 0, none⟩) N N) E, Fc.aB (.slice (some ⟨gM, 0, none⟩) N N) M, Fc.aB (.slice (some ⟨gR, 0, none⟩) N N) ((List.replicate N false).set 0 true), Fc.aU (.slice (some ⟨gF, 0, none⟩) N N) (List.replicate N 0), Fc.aU (.slice (some ⟨gW, 0, none⟩) N N) (List.replicate N 0), aCel gB 68 #[.slice (some ⟨gE, 0, none⟩) N N, .slice (some ⟨gF, 0, none⟩) N N, .slice (some ⟨gW, 0, none⟩) N N, .slice (some ⟨gR, 0, none⟩) N N, .slice (some ⟨gM, 0, none⟩) N N], aCel (w.heap.size + 1) 68 #[.slice none 0 0, .slice none 0 0, .slice none 0 0, .slice none 0 0, .slice none 0 0], aCel w.heap.size 24 #[.int .i64 t, .int .i64 N, .slice ap l.length cp], aCel B5 156 #[.func (.func 77) #[] #[.pointer (some ⟨gB, 0, none⟩)]]]) [1, 2, 0, 3, 4, 5, 6, 7, 8] 9 rfl rfl
    have HST := Lib.hid hst14
    have hn0 : (0 : Int) < N := by have := HN.out; omega
    clear hst12 hst13 hst14
    go_wp2
    clear x0 x1 x2 x3 x4 g0 g1 g2 c1 c2 hn0
    go_loopg [6] N (fun gk v wr => ∃ (k : Nat) (R : List Bool), k ≤ N ∧ gk = N - k ∧ v = .int .i64 k ∧ Hid (Fc.Rch l N k R) ∧ St w wr [Fc.aB (.slice (some ⟨gE, 0, none⟩) N N) E, Fc.aB (.slice (some ⟨gM, 0, none⟩) N N) M, Fc.aB (.slice (some ⟨gR, 0, none⟩) N N) R, Fc.aU (.slice (some ⟨gF, 0, none⟩) N N) (List.replicate N 0), Fc.aU (.slice (some ⟨gW, 0, none⟩) N N) (List.replicate N 0), aCel gB 68 #[.slice (some ⟨gE, 0, none⟩) N N, .slice (some ⟨gF, 0, none⟩) N N, .slice (some ⟨gW, 0, none⟩) N N, .slice (some ⟨gR, 0, none⟩) N N, .slice (some ⟨gM, 0, none⟩) N N], aCel (w.heap.size + 1) 68 #[.slice none 0 0, .slice none 0 0, .slice none 0 0, .slice none 0 0, .slice none 0 0], aCel w.heap.size 24 #[.int .i64 t, .int .i64 N, .slice ap l.length cp], aCel B5 156 #[.func (.func 77) #[] #[.pointer (some ⟨gB, 0, none⟩)]]])
    case atStart => exact ⟨0, _, by omega, by omega, rfl, Lib.hid (Fc.Rch.init HN.out), HST.out⟩
    case round =>
      clear HST
      obtain ⟨k, R, hk, hgk, rfl, HR, hst⟩ := hrel
      have HGK := Lib.hid hgk
      clear hgk
      have hN20 : (N : Int) ≤ 20 := by have := HN20.out; omega
      have HST := Lib.hid hst
      clear hst
      rename World => wo
      by_cases hlt : k < N
      · go_wp2
        go_loopg [7] l.length (fun gk2 v wr2 => ∃ i : Nat, i ≤ l.length ∧ gk2 = l.length - i ∧ v = .int .i64 i ∧ St w wr2 [Fc.aB (.slice (some ⟨gE, 0, none⟩) N N) E, Fc.aB (.slice (some ⟨gM, 0, none⟩) N N) M, Fc.aB (.slice (some ⟨gR, 0, none⟩) N N) (Fc.rdR (l.take i) R), Fc.aU (.slice (some ⟨gF, 0, none⟩) N N) (List.replicate N 0), Fc.aU (.slice (some ⟨gW, 0, none⟩) N N) (List.replicate N 0), aCel gB 68 #[.slice (some ⟨gE, 0, none⟩) N N, .slice (some ⟨gF, 0, none⟩) N N, .slice (some ⟨gW, 0, none⟩) N N, .slice (some ⟨gR, 0, none⟩) N N, .slice (some ⟨gM, 0, none⟩) N N], aCel (w.heap.size + 1) 68 #[.slice none 0 0, .slice none 0 0, .slice none 0 0, .slice none 0 0, .slice none 0 0], aCel w.heap.size 24 #[.int .i64 t, .int .i64 N, .slice ap l.length cp], aCel B5 156 #[.func (.func 77) #[] #[.pointer (some ⟨gB, 0, none⟩)]]])
        case atStart => exact ⟨0, by omega, by omega, rfl, HST.out⟩
        case round =>
          clear HST
          obtain ⟨i, hi, hgi, rfl, hst⟩ := hrel
          have HGI := Lib.hid hgi
          clear hgi
          obtain ⟨g0, g1, g2⟩ := hst.at3 7 rfl
          by_cases hlt2 : i < l.length
          · have hsR := Fc.rdR_step (X := R) hlt2
            have hlR := Fc.rdR_len (l := l.take i) (X := R)
            rw [HR.out.len] at hlR
            obtain ⟨rfl, _, _⟩ := P3.out (by omega)
            obtain ⟨vb, s1, s2, hbody, -⟩ := P4.out i hlt2
            have hokp := HOK.out (l.getD i (0, [])) (by rw [show l.getD i (0, []) = l[i] by simp [List.getD, List.getElem?_eq_getElem hlt2]]; exact List.getElem_mem hlt2)
            generalize l.getD i (0, []) = p at *
            obtain ⟨h0, body⟩ := p
            simp only at s1 s2 hbody hsR
            have hpb := hokp.2.2
            obtain ⟨hp0, hp1, -⟩ := hokp
            simp only at hp0 hp1 hpb
            obtain ⟨h, rfl⟩ := Int.eq_ofNat_of_zero_le hp0
            rw [Int.toNat_natCast] at hsR
            have HSR := Lib.hid hsR; have HPB := Lib.hid hpb; have HLR := Lib.hid hlR
            generalize Fc.rdR (l.take i) R = Ri at *
            have hlt3 : (i : Int) < l.length := by omega
            have hi40 : (i : Int) < 40 := by have := HL.out; omega
            obtain ⟨ab, bb, ob, cb, rfl, hbl, b3, b4⟩ := slTwo hbody
            have B3 := Lib.hid b3; have B4 := Lib.hid b4; have S1 := Lib.hid s1; have S2 := Lib.hid s2
            have hbl2 : (body.length : Int) ≤ 140737488355328 := by omega
            have HST := Lib.hid hst
            clear hst hsR hbody hpb hp0 hbl b3 b4 hlR s1 s2
            go_wp2
            clear g0 g1 g2
            go_loopg [8] body.length (fun gk3 v wr3 => ∃ j : Nat, j ≤ body.length ∧ gk3 = body.length - j ∧ v = .int .i64 j ∧ St w wr3 [Fc.aB (.slice (some ⟨gE, 0, none⟩) N N) E, Fc.aB (.slice (some ⟨gM, 0, none⟩) N N) M, Fc.aB (.slice (some ⟨gR, 0, none⟩) N N) (Fc.rR h (body.take j) Ri), Fc.aU (.slice (some ⟨gF, 0, none⟩) N N) (List.replicate N 0), Fc.aU (.slice (some ⟨gW, 0, none⟩) N N) (List.replicate N 0), aCel gB 68 #[.slice (some ⟨gE, 0, none⟩) N N, .slice (some ⟨gF, 0, none⟩) N N, .slice (some ⟨gW, 0, none⟩) N N, .slice (some ⟨gR, 0, none⟩) N N, .slice (some ⟨gM, 0, none⟩) N N], aCel (w.heap.size + 1) 68 #[.slice none 0 0, .slice none 0 0, .slice none 0 0, .slice none 0 0, .slice none 0 0], aCel w.heap.size 24 #[.int .i64 t, .int .i64 N, .slice (some ⟨bp, op, none⟩) l.length cp], aCel B5 156 #[.func (.func 77) #[] #[.pointer (some ⟨gB, 0, none⟩)]]])
            case atStart => exact ⟨0, by omega, by omega, rfl, HST.out⟩
            case round =>
              clear HST
              obtain ⟨j, hj, hgj, rfl, hst⟩ := hrel
              have HGJ := Lib.hid hgj
              clear hgj
              obtain ⟨g0, g1, g2⟩ := hst.at3 7 rfl
              have p0 := bkeep hst.bel S1.out
              have p1 := bkeep hst.bel S2.out
              by_cases hlt4 : j < body.length
              · obtain ⟨rfl, _, _⟩ := B3.out (by omega)
                obtain ⟨s1, s2, -, -⟩ := B4.out j hlt4
                have hxx := HPB.out (body.getD j (0, 0)) (by rw [show body.getD j (0, 0) = body[j] by simp [List.getD, List.getElem?_eq_getElem hlt4]]; exact List.getElem_mem hlt4)
                have hrs := Fc.rR_step (h := h) (R := Ri) hlt4
                have hlR := Fc.rR_len (h := h) (b := body.take j) (R := Ri)
                rw [HLR.out] at hlR
                generalize body.getD j (0, 0) = x at *
                generalize Fc.rR h (body.take j) Ri = Rj at *
                obtain ⟨x1, x2⟩ := x
                simp only at s1 s2 hxx hrs
                have c1 := bkeep hst.bel s1
                have c2 := bkeep hst.bel s2
                have hlt5 : (j : Int) < body.length := by omega
                have l0 := World.block_lt_of_cell? _ _ c1
                have l1 := World.block_lt_of_cell? _ _ g0
                obtain ⟨-, -, -, x3, -⟩ := hst.at5 5 rfl
                have l2 := World.block_lt_of_cell? _ _ x3
                have l3 := World.block_lt_of_cell? _ _ p0
                rcases hxx with ⟨rfl, h0, -⟩ | ⟨rfl, h0, h1⟩
                · rw [if_neg (by decide)] at hrs
                  have HRS := Lib.hid hrs
                  have HST := Lib.hid (hst.skip (.cells #[.int .i64 1, .int .i64 x2] 61))
                  clear s1 s2 hst hrs hlR
                  go_wp2
                  go_quiet (fail)
                  go_wp2
                  go_roundg (body.length - (j + 1))
                  case measure => have := HGJ.out; omega
                  case rel => exact ⟨j + 1, by omega, rfl, by go_num, by rw [HRS.out]; exact HST.out.drewN _⟩
                · obtain ⟨q, rfl⟩ := Int.eq_ofNat_of_zero_le h0
                  rw [if_pos rfl, Int.toNat_natCast] at hrs
                  have hq : q < Rj.length := by omega
                  have hh : h < Rj.length := by omega
                  have hhn : (h : Int) < N := by omega
                  have hqn : (q : Int) < N := by omega
                  have hstR := (show St w wr (aOwn 4 1 (.slice (some ⟨gR, 0, none⟩) N N) (Rj.map Value.bool) :: _) from hst.pick [2, 0, 1, 3, 4, 5, 6, 7, 8] 9 rfl rfl)
                  have r1 := (hstR.cellOwn (f := Value.bool) (fun _ => rfl) h hh false).1
                  have l4 := World.block_lt_of_cell? _ _ r1
                  obtain ⟨b, hb⟩ : ∃ b, Rj.getD h false = b := ⟨_, rfl⟩
                  rw [hb] at hrs r1
                  have HSTR := Lib.hid (hstR.skip (.cells #[.int .i64 2, .int .i64 q] 61))
                  have HRS := Lib.hid hrs
                  have HQ := Lib.hid hq
                  clear s1 s2 hst hrs hlR hb hq hh
                  cases b
                  · go_wp2
                    go_quiet (fail)
                    go_wp2
                    go_roundg (body.length - (j + 1))
                    case measure => have := HGJ.out; omega
                    case rel => exact ⟨j + 1, by omega, rfl, by go_num, by rw [HRS.out, Fc.set1_no]; exact (HSTR.out.drewN _).pick [1, 2, 0, 3, 4, 5, 6, 7, 8] 9 rfl rfl⟩
                  · go_wp2
                    go_quiet (fail)
                    have hst2 := HSTR.out.drewN nq
                    have k1 := hst2.cellOwn (f := Value.bool) (fun _ => rfl) q HQ.out false
                    have hst3 := (hst2.setOwn (f := Value.bool) (fun _ => rfl) q true).pick (ρ := [Fc.aB (.slice (some ⟨gE, 0, none⟩) N N) E, Fc.aB (.slice (some ⟨gM, 0, none⟩) N N) M, Fc.aB (.slice (some ⟨gR, 0, none⟩) N N) (Rj.set q true), Fc.aU (.slice (some ⟨gF, 0, none⟩) N N) (List.replicate N 0), Fc.aU (.slice (some ⟨gW, 0, none⟩) N N) (List.replicate N 0), aCel gB 68 #[.slice (some ⟨gE, 0, none⟩) N N, .slice (some ⟨gF, 0, none⟩) N N, .slice (some ⟨gW, 0, none⟩) N N, .slice (some ⟨gR, 0, none⟩) N N, .slice (some ⟨gM, 0, none⟩) N N], aCel (w.heap.size + 1) 68 #[.slice none 0 0, .slice none 0 0, .slice none 0 0, .slice none 0 0, .slice none 0 0], aCel w.heap.size 24 #[.int .i64 t, .int .i64 N, .slice (some ⟨bp, op, none⟩) l.length cp], aCel B5 156 #[.func (.func 77) #[] #[.pointer (some ⟨gB, 0, none⟩)]]]) [1, 2, 0, 3, 4, 5, 6, 7, 8] 9 rfl rfl
                    have HST3 := Lib.hid hst3
                    obtain ⟨k1, k2⟩ := k1
                    clear hst2 hst3
                    go_wp2
                    go_roundg (body.length - (j + 1))
                    case measure => have := HGJ.out; omega
                    case rel => exact ⟨j + 1, by omega, rfl, by go_num, by rw [HRS.out, show Fc.set1 Rj q true = Rj.set q true by simp [Fc.set1]]; exact HST3.out⟩
              · obtain rfl : j = body.length := by omega
                rw [List.take_length] at hst
                have HST := Lib.hid hst
                clear hst
                go_wp2
                go_roundg (l.length - (i + 1))
                case measure => have := HGI.out; omega
                case rel => exact ⟨i + 1, by omega, rfl, by go_num, by rw [HSR.out]; exact HST.out⟩
          · obtain rfl : i = l.length := by omega
            rw [List.take_length] at hst
            have HST := Lib.hid hst
            clear hst
            go_wp2
            go_roundg (N - (k + 1))
            case measure => have := HGK.out; omega
            case rel => exact ⟨k + 1, _, by omega, rfl, by go_num, Lib.hid HR.out.next, HST.out⟩
      · obtain rfl : N = k := by omega
        have HLRR := Lib.hid (Fc.LR_of HR.out.len HR.out.r0 (Fc.okP_body HOK.out) HR.out.le HR.out.done)
        have HRL := Lib.hid HR.out.len
        have HST := Lib.hid (HST.out.alloc #[.int .i64 0] 3)
        clear HR
        go_wp2
        generalize wo.heap.size = gT at *
        go_loopg [10] t (fun gk v wr => ∃ (u g : Nat) (Fk : List Nat), u ≤ t ∧ gk = t - u ∧ v = .pointer (some ⟨g, 0, none⟩) ∧ Hid (Fc.Upt l N E M u Fk) ∧ St w wr (aCel g 3 #[.int .i64 u] :: [Fc.aB (.slice (some ⟨gE, 0, none⟩) N N) E, Fc.aB (.slice (some ⟨gM, 0, none⟩) N N) M, Fc.aB (.slice (some ⟨gR, 0, none⟩) N N) R, Fc.aU (.slice (some ⟨gF, 0, none⟩) N N) Fk, Fc.aU (.slice (some ⟨gW, 0, none⟩) N N) (List.replicate N 0), aCel gB 68 #[.slice (some ⟨gE, 0, none⟩) N N, .slice (some ⟨gF, 0, none⟩) N N, .slice (some ⟨gW, 0, none⟩) N N, .slice (some ⟨gR, 0, none⟩) N N, .slice (some ⟨gM, 0, none⟩) N N], aCel (w.heap.size + 1) 68 #[.slice none 0 0, .slice none 0 0, .slice none 0 0, .slice none 0 0, .slice none 0 0], aCel w.heap.size 24 #[.int .i64 t, .int .i64 N, .slice ap l.length cp], aCel B5 156 #[.func (.func 77) #[] #[.pointer (some ⟨gB, 0, none⟩)]]]))
        case atStart => exact ⟨0, gT, _, by omega, by omega, rfl, Lib.hid Fc.Upt.init, HST.out⟩
        case round =>
          clear HST
          obtain ⟨u, gu, Fk, hu, hgu, rfl, HUP, hst⟩ := hrel
          have HGU := Lib.hid hgu
          clear hgu
          have HST := Lib.hid hst
          obtain ⟨g0, g1, g2⟩ := hst.at3 8 rfl
          have t0 := hst.celAt (i := 0) rfl
          clear hst
          rename World => wq
          by_cases hlu : u < t
          · have hlu2 : (u : Int) < t := by omega
            go_wp2_with (refine St.make rfl (.tmp 102) rfl Try.underlying52 (z := .bool false) (bytes := 1) (by kernel_rfl) rfl HST.out N rfl (by omega) (by decide) ?_; intro gS wS hstS; clear g0 g1 g2 t0; obtain ⟨g0, g1, g2⟩ := hstS.at3 9 rfl; have l0 := World.block_lt_of_cell? _ _ g0; have t5 := (hstS.nth 10 rfl).celAt (i := 0) rfl)
            go_at_call 75
            have hst2 := (hstS.alloc #[(.slice (some ⟨gS, 0, none⟩) N N)] 52).pick (ρ := aOwn 4 1 (.slice (some ⟨gS, 0, none⟩) N N) (List.replicate N (.bool false)) :: [aCel B5 156 #[.func (.func 77) #[] #[.pointer (some ⟨gB, 0, none⟩)]], aCel gu 3 #[.int .i64 u], aCel wS.heap.size 52 #[(.slice (some ⟨gS, 0, none⟩) N N)], aCel gB 68 #[.slice (some ⟨gE, 0, none⟩) N N, .slice (some ⟨gF, 0, none⟩) N N, .slice (some ⟨gW, 0, none⟩) N N, .slice (some ⟨gR, 0, none⟩) N N, .slice (some ⟨gM, 0, none⟩) N N], Fc.aB (.slice (some ⟨gE, 0, none⟩) N N) E, Fc.aB (.slice (some ⟨gM, 0, none⟩) N N) M, Fc.aB (.slice (some ⟨gR, 0, none⟩) N N) R, Fc.aU (.slice (some ⟨gF, 0, none⟩) N N) Fk, Fc.aU (.slice (some ⟨gW, 0, none⟩) N N) (List.replicate N 0), aCel (w.heap.size + 1) 68 #[.slice none 0 0, .slice none 0 0, .slice none 0 0, .slice none 0 0, .slice none 0 0], aCel w.heap.size 24 #[.int .i64 t, .int .i64 N, .slice ap l.length cp]]) [1, 11, 2, 0, 8, 3, 4, 5, 6, 7, 9, 10] 12 rfl rfl
            clear hstS g0 g1 g2 l0 t5
            generalize wS.heap.size = gG at *
            generalize wS.alloc (.cells #[(.slice (some ⟨gS, 0, none⟩) N N)] 52) = wT at *
            have hst3 : St w wT (Fc.aB (.slice (some ⟨gS, 0, none⟩) N N) (List.replicate N false) :: [aCel B5 156 #[.func (.func 77) #[] #[.pointer (some ⟨gB, 0, none⟩)]], aCel gu 3 #[.int .i64 u], aCel gG 52 #[(.slice (some ⟨gS, 0, none⟩) N N)], aCel gB 68 #[.slice (some ⟨gE, 0, none⟩) N N, .slice (some ⟨gF, 0, none⟩) N N, .slice (some ⟨gW, 0, none⟩) N N, .slice (some ⟨gR, 0, none⟩) N N, .slice (some ⟨gM, 0, none⟩) N N], Fc.aB (.slice (some ⟨gE, 0, none⟩) N N) E, Fc.aB (.slice (some ⟨gM, 0, none⟩) N N) M, Fc.aB (.slice (some ⟨gR, 0, none⟩) N N) R, Fc.aU (.slice (some ⟨gF, 0, none⟩) N N) Fk, Fc.aU (.slice (some ⟨gW, 0, none⟩) N N) (List.replicate N 0), aCel (w.heap.size + 1) 68 #[.slice none 0 0, .slice none 0 0, .slice none 0 0, .slice none 0 0, .slice none 0 0], aCel w.heap.size 24 #[.int .i64 t, .int .i64 N, .slice ap l.length cp]]) := by
              have e : Fc.aB (.slice (some ⟨gS, 0, none⟩) N N) (List.replicate N false) = aOwn 4 1 (.slice (some ⟨gS, 0, none⟩) N N) (List.replicate N (.bool false)) := by unfold Fc.aB; rw [List.map_replicate]
              rw [e]; exact hst2
            refine (fcFix_any w _ t N _ l N 78 gS N N #[.pointer (some ⟨B5, 0, none⟩), .pointer (some ⟨gu, 0, none⟩), .pointer (some ⟨gG, 0, none⟩), .pointer (some ⟨gB, 0, none⟩)] (Fc.holdF E M u) (List.replicate N false) [aCel B5 156 #[.func (.func 77) #[] #[.pointer (some ⟨gB, 0, none⟩)]], aCel gu 3 #[.int .i64 u], aCel gG 52 #[(.slice (some ⟨gS, 0, none⟩) N N)], aCel gB 68 #[.slice (some ⟨gE, 0, none⟩) N N, .slice (some ⟨gF, 0, none⟩) N N, .slice (some ⟨gW, 0, none⟩) N N, .slice (some ⟨gR, 0, none⟩) N N, .slice (some ⟨gM, 0, none⟩) N N], Fc.aB (.slice (some ⟨gE, 0, none⟩) N N) E, Fc.aB (.slice (some ⟨gM, 0, none⟩) N N) M, Fc.aB (.slice (some ⟨gR, 0, none⟩) N N) R, Fc.aU (.slice (some ⟨gF, 0, none⟩) N N) Fk, Fc.aU (.slice (some ⟨gW, 0, none⟩) N N) (List.replicate N 0), aCel (w.heap.size + 1) 68 #[.slice none 0 0, .slice none 0 0, .slice none 0 0, .slice none 0 0, .slice none 0 0], aCel w.heap.size 24 #[.int .i64 t, .int .i64 N, .slice ap l.length cp]] F HP.out HL.out HOK.out (by simp) rfl (Fc.callC Try.func78 (by kernel_rfl) (by kernel_rfl)) (fun W Y A p vb hY hb hp hs => ?_) hst3).mono ?_
            · refine (fcC3_any w W gB B5 gu gG N N gE N N gM N N gS u p.1 vb _ _ _ p.2 E M Y _ F (by rw [HEl.out]) (by rw [HMl.out]) (by rw [hY]) (by rw [HEl.out, HMl.out]) (by rw [hY, HEl.out]) hb (fun x hx => ?_) (hs.pick [0, 2, 3, 4, 5, 6, 7, 1] 8 rfl rfl)).mono ?_
              · rw [HEl.out]
                rcases (HOK.out p hp).2.2 x hx with ⟨a, b, -⟩ | ⟨a, b, c⟩
                · exact .inl ⟨a, b⟩
                · exact .inr ⟨a, b, c⟩
              · rintro e w' ⟨rfl, hs'⟩
                exact ⟨rfl, hs'.pick [0, 7, 1, 2, 3, 4, 5, 6] 8 rfl rfl⟩
            rintro e wU ⟨S, rfl, hSl, hSf, hSq, hst4⟩
            have HLT := Lib.hid (Fc.LT_fix HOK.out hSl hSf hSq)
            have HSl := Lib.hid hSl
            have HST := Lib.hid hst4
            clear hst2 hst3 hst4 hSl hSf hSq
            go_wp2
            go_loopg [12] N (fun gk2 v wr2 => ∃ i : Nat, i ≤ N ∧ gk2 = N - i ∧ v = .int .i64 i ∧ St w wr2 [Fc.aU (.slice (some ⟨gF, 0, none⟩) N N) (Fc.orK (2 ^ u) S Fk i), Fc.aB (.slice (some ⟨gS, 0, none⟩) N N) S, aCel gu 3 #[.int .i64 u], aCel gG 52 #[(.slice (some ⟨gS, 0, none⟩) N N)], aCel gB 68 #[.slice (some ⟨gE, 0, none⟩) N N, .slice (some ⟨gF, 0, none⟩) N N, .slice (some ⟨gW, 0, none⟩) N N, .slice (some ⟨gR, 0, none⟩) N N, .slice (some ⟨gM, 0, none⟩) N N], aCel B5 156 #[.func (.func 77) #[] #[.pointer (some ⟨gB, 0, none⟩)]], Fc.aB (.slice (some ⟨gE, 0, none⟩) N N) E, Fc.aB (.slice (some ⟨gM, 0, none⟩) N N) M, Fc.aB (.slice (some ⟨gR, 0, none⟩) N N) R, Fc.aU (.slice (some ⟨gW, 0, none⟩) N N) (List.replicate N 0), aCel (w.heap.size + 1) 68 #[.slice none 0 0, .slice none 0 0, .slice none 0 0, .slice none 0 0, .slice none 0 0], aCel w.heap.size 24 #[.int .i64 t, .int .i64 N, .slice ap l.length cp]])
            case atStart => exact ⟨0, by omega, by omega, rfl, HST.out.pick [8, 0, 2, 3, 4, 1, 5, 6, 7, 9, 10, 11] 12 rfl rfl⟩
            case round =>
              clear HST
              obtain ⟨i, hi, hgi, rfl, hst⟩ := hrel
              have HGI := Lib.hid hgi
              clear hgi
              by_cases hlt2 : i < N
              · have hlt3 : (i : Int) < N := by omega
                have hS := (show St w wr (aOwn 4 1 (.slice (some ⟨gS, 0, none⟩) N N) (S.map Value.bool) :: _) from hst.nth 1 rfl)
                have s1 := (hS.cellOwn (f := Value.bool) (fun _ => rfl) i (by rw [HSl.out]; exact hlt2) false).1
                have q1 := (hst.nth 3 rfl).celAt (i := 0) rfl
                have hor : Fc.orK (2 ^ u) S Fk (i + 1) = if S.getD i false = true then Fc.up (Fc.orK (2 ^ u) S Fk i) i (2 ^ u) else Fc.orK (2 ^ u) S Fk i := rfl
                have hol := Fc.orK_len (b := 2 ^ u) (S := S) (F := Fk) (k := i)
                have hog := Fc.orK_get (b := 2 ^ u) (S := S) (F := Fk) (k := i) (by rw [HUP.out.len]; omega) i
                rw [if_neg (by omega)] at hog
                rw [HUP.out.len] at hol
                have hfb : (Fc.orK (2 ^ u) S Fk i).getD i 0 < 18446744073709551616 := by
                  rw [hog]
                  exact Nat.lt_trans (HUP.out.lt i) (Nat.pow_lt_pow_right (a := 2) (m := u) (n := 64) (by decide) (by omega))
                generalize Fc.orK (2 ^ u) S Fk i = Fi at *
                have HOR := Lib.hid hor; have HOL := Lib.hid hol; have HFB := Lib.hid hfb
                cases hv : S.getD i false
                · rw [hv] at s1
                  have HV := Lib.hid hv
                  have HST := Lib.hid hst
                  clear hst hS hor hol hog hfb hv
                  go_wp2
                  go_roundg (N - (i + 1))
                  case measure => have := HGI.out; omega
                  case rel => exact ⟨i + 1, by omega, rfl, by go_num, by rw [HOR.out, if_neg (by rw [HV.out]; simp)]; exact HST.out⟩
                · rw [hv] at s1
                  have HV := Lib.hid hv
                  obtain ⟨f1, f2⟩ := (show St w wr.drew (aOwn 130 1 (.slice (some ⟨gF, 0, none⟩) N N) (Fi.map Fc.uV) :: _) from hst.drew).cellOwn (f := Fc.uV) (fun _ => rfl) i (by rw [hol]; exact hlt2) 0
                  have hst2 := (show St w wr.drew (aOwn 130 1 (.slice (some ⟨gF, 0, none⟩) N N) (Fi.map Fc.uV) :: _) from hst.drew).setOwn (f := Fc.uV) (fun _ => rfl) i (Fi.getD i 0 ||| 2 ^ u)
                  have hpow : 2 ^ u < 18446744073709551616 := Nat.pow_lt_pow_right (a := 2) (m := u) (n := 64) (by decide) (by omega)
                  have hbo := bits_or_u64_nat (Fi.getD i 0) (2 ^ u) hfb hpow
                  have hsh : IntKind.u64.wrap ((2 : Int) ^ u) = ((2 ^ u : Nat) : Int) := by
                    have e : ((2 : Int) ^ u) = ((2 ^ u : Nat) : Int) := by simp
                    rw [e, IntKind.wrap_u64]
                    exact Int.emod_eq_of_lt (Int.natCast_nonneg _) (Int.ofNat_lt.2 hpow)
                  rw [← hsh] at hbo
                  have hup : Fc.up Fi i (2 ^ u) = Fi.set i (Fi.getD i 0 ||| 2 ^ u) := rfl
                  rw [hv, if_pos rfl, hup] at hor
                  have HOR2 := Lib.hid hor
                  generalize (Fi.getD i 0 ||| 2 ^ u : Nat) = z at *
                  generalize Fi.getD i 0 = y at *
                  replace f1 : World.cell? wr.drew ⟨gF, i, none⟩ = some (.int .u64 (y : Int)) := f1
                  have HBO := Lib.hid hbo
                  have HST2 := Lib.hid hst2
                  obtain ⟨-, x1, -, -, -⟩ := hst.at5 4 rfl
                  have u1 := (hst.nth 2 rfl).celAt (i := 0) rfl
                  have HST := Lib.hid hst
                  clear hst hS hor hol hog hfb hv hst2 hpow hsh hup hbo HOR
                  go_wp2
                  have hst3 : St w (wr.drew.setCell ⟨gF, i, none⟩ (.int .u64 (bits .or .u64 (y : Int) (IntKind.u64.wrap ((2 : Int) ^ u))))) [Fc.aU (.slice (some ⟨gF, 0, none⟩) N N) (Fi.set i z), Fc.aB (.slice (some ⟨gS, 0, none⟩) N N) S, aCel gu 3 #[.int .i64 u], aCel gG 52 #[(.slice (some ⟨gS, 0, none⟩) N N)], aCel gB 68 #[.slice (some ⟨gE, 0, none⟩) N N, .slice (some ⟨gF, 0, none⟩) N N, .slice (some ⟨gW, 0, none⟩) N N, .slice (some ⟨gR, 0, none⟩) N N, .slice (some ⟨gM, 0, none⟩) N N], aCel B5 156 #[.func (.func 77) #[] #[.pointer (some ⟨gB, 0, none⟩)]], Fc.aB (.slice (some ⟨gE, 0, none⟩) N N) E, Fc.aB (.slice (some ⟨gM, 0, none⟩) N N) M, Fc.aB (.slice (some ⟨gR, 0, none⟩) N N) R, Fc.aU (.slice (some ⟨gW, 0, none⟩) N N) (List.replicate N 0), aCel (w.heap.size + 1) 68 #[.slice none 0 0, .slice none 0 0, .slice none 0 0, .slice none 0 0, .slice none 0 0], aCel w.heap.size 24 #[.int .i64 t, .int .i64 N, .slice ap l.length cp]] := by rw [HBO.out]; exact HST2.out
                  obtain ⟨-, x1s, -, -, -⟩ := hst3.at5 4 rfl
                  have u1s := (hst3.nth 2 rfl).celAt (i := 0) rfl
                  have HST3 := Lib.hid hst3
                  clear hst3 HST2
                  refine wp_region_held_drew (S := (fun w' => w'.cell? ⟨gB, 1, none⟩ = some (.slice (some ⟨gF, 0, none⟩) N N) ∧ w'.cell? ⟨gu, 0, none⟩ = some (.int .i64 u))) (by kernel_rfl) ?_ (fun hHeld => ?_)
                  · (try dsimp only); (first | exact ⟨x1, u1⟩ | exact ⟨x1s, u1s⟩ | go_keep)

                  refine wpAnyH_take (i := 0) (v := ?_) rfl (by kernel_rfl) (by kernel_rfl) (by kernel_rfl) (fun _ _ _ h => h) (Or.inl ⟨by rfl, ?_⟩) (by assumption) ?_
                  rotate_left; focus (intro w hSw; (try dsimp only at hSw); go_simp; try (with_reducible rfl); done)
                  try simp only [List.getElem_toArray, List.getElem_cons_zero, List.getElem_cons_succ, Act.put, List.setIfInBounds_toArray, List.set_cons_zero, List.set_cons_succ]
                  refine wpAnyH_take (i := 1) (v := ?_) rfl (by kernel_rfl) (by kernel_rfl) (by kernel_rfl) (fun _ _ _ h => h) (Or.inl ⟨by rfl, ?_⟩) (by assumption) ?_
                  rotate_left; focus (intro w hSw; (try dsimp only at hSw); go_simp; try (with_reducible rfl); done)
                  try simp only [List.getElem_toArray, List.getElem_cons_zero, List.getElem_cons_succ, Act.put, List.setIfInBounds_toArray, List.set_cons_zero, List.set_cons_succ]
                  refine wpAnyH_take (i := 2) (v := ?_) rfl (by kernel_rfl) (by kernel_rfl) (by kernel_rfl) (fun _ _ _ h => h) (Or.inl ⟨by rfl, ?_⟩) (by assumption) ?_
                  rotate_left; focus (intro w hSw; (try dsimp only at hSw); go_simp; try (with_reducible rfl); done)
                  try simp only [List.getElem_toArray, List.getElem_cons_zero, List.getElem_cons_succ, Act.put, List.setIfInBounds_toArray, List.set_cons_zero, List.set_cons_succ]
                  refine wpAnyH_take (i := 3) (v := ?_) rfl (by kernel_rfl) (by kernel_rfl) (by kernel_rfl) (fun _ _ _ h => h) (Or.inl ⟨by rfl, ?_⟩) (by assumption) ?_
                  rotate_left; focus (intro w hSw; (try dsimp only at hSw); go_simp; try (with_reducible rfl); done)
                  try simp only [List.getElem_toArray, List.getElem_cons_zero, List.getElem_cons_succ, Act.put, List.setIfInBounds_toArray, List.set_cons_zero, List.set_cons_succ]
                  refine wpAnyH_take (i := 5) (v := ?_) rfl (by kernel_rfl) (by kernel_rfl) (by kernel_rfl) (fun _ _ _ h => h) (Or.inl ⟨by rfl, ?_⟩) (by assumption) ?_
                  rotate_left; focus (intro w hSw; (try dsimp only at hSw); go_simp; try (with_reducible rfl); done)
                  try simp only [List.getElem_toArray, List.getElem_cons_zero, List.getElem_cons_succ, Act.put, List.setIfInBounds_toArray, List.set_cons_zero, List.set_cons_succ]
                  refine wpAnyH_take (i := 6) (v := ?_) rfl (by kernel_rfl) (by kernel_rfl) (by kernel_rfl) (fun _ _ _ h => h) (Or.inl ⟨by rfl, ?_⟩) (by assumption) ?_
                  rotate_left; focus (intro w hSw; (try dsimp only at hSw); go_simp; try (with_reducible rfl); done)
                  try simp only [List.getElem_toArray, List.getElem_cons_zero, List.getElem_cons_succ, Act.put, List.setIfInBounds_toArray, List.set_cons_zero, List.set_cons_succ]
                  refine wpAnyH_ready (rs := [4]) (by kernel_rfl) (by simp) ?_
                  refine AllReadyH.cons rfl (fun K hK => ?_) AllReadyH.nil
                  go_simp
                  refine hK.out _ _ ?_ (fun hHeld => ?_)
                  · (try dsimp only); (first | exact ⟨x1, u1⟩ | exact ⟨x1s, u1s⟩ | go_keep)
                  clear hK K
                  try simp only [List.getElem_toArray, List.getElem_cons_zero, List.getElem_cons_succ, Act.put, List.setIfInBounds_toArray, List.set_cons_zero, List.set_cons_succ]
                  refine wpAnyH_take (i := 7) (v := ?_) rfl (by kernel_rfl) (by kernel_rfl) (by kernel_rfl) (fun _ _ _ h => h) (Or.inl ⟨by rfl, ?_⟩) (by assumption) ?_
                  rotate_left; focus (intro w hSw; (try dsimp only at hSw); go_simp; try (with_reducible rfl); done)
                  try simp only [List.getElem_toArray, List.getElem_cons_zero, List.getElem_cons_succ, Act.put, List.setIfInBounds_toArray, List.set_cons_zero, List.set_cons_succ]
                  refine wpAnyH_take (i := 8) (v := ?_) rfl (by kernel_rfl) (by kernel_rfl) (by kernel_rfl) (fun _ _ _ h => h) (Or.inl ⟨by rfl, ?_⟩) (by assumption) ?_
                  rotate_left; focus (intro w hSw; (try dsimp only at hSw); go_simp; try (with_reducible rfl); done)
                  try simp only [List.getElem_toArray, List.getElem_cons_zero, List.getElem_cons_succ, Act.put, List.setIfInBounds_toArray, List.set_cons_zero, List.set_cons_succ]
                  refine wpAnyH_ready (rs := [9]) (by kernel_rfl) (by simp) ?_
                  refine AllReadyH.cons rfl (fun K hK => ?_) AllReadyH.nil
                  go_simp
                  refine hK.out _ _ ?_ (fun hHeld => ?_)
                  · (try dsimp only); (first | exact ⟨x1, u1⟩ | exact ⟨x1s, u1s⟩ | go_keep)
                  clear hK K
                  try simp only [List.getElem_toArray, List.getElem_cons_zero, List.getElem_cons_succ, Act.put, List.setIfInBounds_toArray, List.set_cons_zero, List.set_cons_succ]
                  refine wpAnyH_done (by kernel_rfl) ?_ _
                  clear f1 f2 x1 u1 x1s u1s
                  go_wp2
                  go_roundg (N - (i + 1))
                  case measure => have := HGI.out; omega
                  case rel => exact ⟨i + 1, by omega, rfl, by go_num, by rw [HOR2.out]; exact HST3.out⟩
              · obtain rfl : N = i := by omega
                have HST := Lib.hid ((hst.alloc #[.int .i64 ((u : Int) + 1)] 3).pick (ρ := [aCel wr.heap.size 3 #[.int .i64 ((u : Int) + 1)], Fc.aB (.slice (some ⟨gE, 0, none⟩) N N) E, Fc.aB (.slice (some ⟨gM, 0, none⟩) N N) M, Fc.aB (.slice (some ⟨gR, 0, none⟩) N N) R, Fc.aU (.slice (some ⟨gF, 0, none⟩) N N) (Fc.orK (2 ^ u) S Fk N), Fc.aU (.slice (some ⟨gW, 0, none⟩) N N) (List.replicate N 0), aCel gB 68 #[.slice (some ⟨gE, 0, none⟩) N N, .slice (some ⟨gF, 0, none⟩) N N, .slice (some ⟨gW, 0, none⟩) N N, .slice (some ⟨gR, 0, none⟩) N N, .slice (some ⟨gM, 0, none⟩) N N], aCel (w.heap.size + 1) 68 #[.slice none 0 0, .slice none 0 0, .slice none 0 0, .slice none 0 0, .slice none 0 0], aCel w.heap.size 24 #[.int .i64 t, .int .i64 N, .slice ap l.length cp], aCel B5 156 #[.func (.func 77) #[] #[.pointer (some ⟨gB, 0, none⟩)]]]) [0, 7, 8, 9, 1, 10, 5, 11, 12, 6] 13 rfl rfl)
                have u1 := (hst.nth 2 rfl).celAt (i := 0) rfl
                have HUP2 := Lib.hid (HUP.out.next HSl.out HLT.out)
                clear hst
                go_wp2
                go_roundg (t - (u + 1))
                case measure => have := HGU.out; omega
                case rel => exact ⟨u + 1, _, _, by omega, rfl, rfl, HUP2, HST.out⟩
          · obtain rfl : t = u := by omega
            have HLF := Lib.hid (HUP.out.done HT.out)
            have HFl := Lib.hid HUP.out.len
            have HFb := Lib.hid (fun i => Nat.lt_trans (HUP.out.lt i) (Nat.pow_lt_pow_right (a := 2) (m := t) (n := 64) (by decide) (by omega)))
            have hst := HST.out.pick (ρ := [Fc.aU (.slice (some ⟨gW, 0, none⟩) N N) (List.replicate N 0), Fc.aB (.slice (some ⟨gE, 0, none⟩) N N) E, Fc.aU (.slice (some ⟨gF, 0, none⟩) N N) Fk, Fc.aB (.slice (some ⟨gM, 0, none⟩) N N) M, Fc.aB (.slice (some ⟨gR, 0, none⟩) N N) R, aCel gB 68 #[.slice (some ⟨gE, 0, none⟩) N N, .slice (some ⟨gF, 0, none⟩) N N, .slice (some ⟨gW, 0, none⟩) N N, .slice (some ⟨gR, 0, none⟩) N N, .slice (some ⟨gM, 0, none⟩) N N], aCel (w.heap.size + 1) 68 #[.slice none 0 0, .slice none 0 0, .slice none 0 0, .slice none 0 0, .slice none 0 0], aCel w.heap.size 24 #[.int .i64 t, .int .i64 N, .slice ap l.length cp]]) [5, 1, 4, 2, 3, 6, 7, 8] 10 rfl rfl
            have hstU := (show St w wq (aOwn 130 1 (.slice (some ⟨gW, 0, none⟩) N N) ((List.replicate N 0).map Fc.uV) :: _) from hst)
            obtain ⟨f1, f2⟩ := hstU.cellOwn (f := Fc.uV) (fun _ => rfl) 0 (by simp; exact HN.out) 0
            obtain ⟨x0, x1, x2, x3, x4⟩ := hst.at5 5 rfl
            have hst2 := (hstU.setOwn (f := Fc.uV) (fun _ => rfl) 0 9223372036854775808)
            have hst3 : St w (wq.setCell ⟨gW, 0, none⟩ (.int .u64 9223372036854775808)) [Fc.aU (.slice (some ⟨gW, 0, none⟩) N N) ((List.replicate N 0).set 0 9223372036854775808), Fc.aB (.slice (some ⟨gE, 0, none⟩) N N) E, Fc.aU (.slice (some ⟨gF, 0, none⟩) N N) Fk, Fc.aB (.slice (some ⟨gM, 0, none⟩) N N) M, Fc.aB (.slice (some ⟨gR, 0, none⟩) N N) R, aCel gB 68 #[.slice (some ⟨gE, 0, none⟩) N N, .slice (some ⟨gF, 0, none⟩) N N, .slice (some ⟨gW, 0, none⟩) N N, .slice (some ⟨gR, 0, none⟩) N N, .slice (some ⟨gM, 0, none⟩) N N], aCel (w.heap.size + 1) 68 #[.slice none 0 0, .slice none 0 0, .slice none 0 0, .slice none 0 0, .slice none 0 0], aCel w.heap.size 24 #[.int .i64 t, .int .i64 N, .slice ap l.length cp]] := hst2
            have HST := Lib.hid (hst3.nilOwn 130 1)
            have hn0 : (0 : Int) < N := by have := HN.out; omega
            clear HUP hst hstU hst2 hst3
            go_wp2
            clear f1 f2 x0 x1 x2 x3 x4 hn0 g0 g1 g2 t0
            go_loopg [13] (Fc.room (2 ^ 64) ((List.replicate N 0).set 0 9223372036854775808) + 1) (fun gk v wr => ∃ (vw : Value) (was W : List Nat), vw = v ∧ Hid ((∃ q, W = Fc.iter (Fc.fol E Fk l) q ((List.replicate N 0).set 0 9223372036854775808)) ∧ (was = W → Fc.fol E Fk l W = W) ∧ ((was = [] ∧ gk = Fc.room (2 ^ 64) W + 1) ∨ (W = Fc.fol E Fk l was ∧ was.length = N ∧ (∀ i, was.getD i 0 < 2 ^ 64) ∧ gk = Fc.room (2 ^ 64) was))) ∧ Hid (W.length = N ∧ (∀ i, W.getD i 0 < 2 ^ 64) ∧ was.length ≤ N) ∧ St w wr [Fc.aU vw was, Fc.aU (.slice (some ⟨gW, 0, none⟩) N N) W, Fc.aB (.slice (some ⟨gE, 0, none⟩) N N) E, Fc.aU (.slice (some ⟨gF, 0, none⟩) N N) Fk, Fc.aB (.slice (some ⟨gM, 0, none⟩) N N) M, Fc.aB (.slice (some ⟨gR, 0, none⟩) N N) R, aCel gB 68 #[.slice (some ⟨gE, 0, none⟩) N N, .slice (some ⟨gF, 0, none⟩) N N, .slice (some ⟨gW, 0, none⟩) N N, .slice (some ⟨gR, 0, none⟩) N N, .slice (some ⟨gM, 0, none⟩) N N], aCel (w.heap.size + 1) 68 #[.slice none 0 0, .slice none 0 0, .slice none 0 0, .slice none 0 0, .slice none 0 0], aCel w.heap.size 24 #[.int .i64 t, .int .i64 N, .slice ap l.length cp]])
            case atStart => exact ⟨_, [], ((List.replicate N 0).set 0 9223372036854775808), rfl, Lib.hid ⟨⟨0, rfl⟩, (fun h => by have := congrArg List.length h; simp at this; have := HN.out; omega), .inl ⟨rfl, rfl⟩⟩, Lib.hid ⟨by simp, (fun i => by rw [Fc.getD_rep0 HN.out]; split <;> decide), by simp⟩, HST.out⟩
            case round =>
              clear HST
              rename World => wp
              obtain ⟨vw, was, Wk, rfl, HA, HB, hst⟩ := hrel
              have hr1 := (show Own wp 0 130 1 vw (was.map Fc.uV) from hst.ok _ (.head _)).row1 (fun _ => rfl) 0 (by have := HB.out.2.2; have := HN20.out; omega)
              have hr2 := (show Own wp 0 130 1 (.slice (some ⟨gW, 0, none⟩) N N) (Wk.map Fc.uV) from hst.ok _ (.tail _ (.head _))).row1 (fun _ => rfl) 0 (by have := HB.out.1; have := HN20.out; omega)
              obtain ⟨x0, x1, x2, x3, x4⟩ := hst.at5 6 rfl
              have HEQ := Lib.hid (eqU64 wp hr1 hr2)
              have HST := Lib.hid hst
              clear hst hr1 hr2
              obtain ⟨R', hR'⟩ : ∃ R', decide (was = Wk) = R' := ⟨_, rfl⟩
              rw [hR'] at HEQ
              have HR' := Lib.hid hR'
              clear hR'
              go_wp2_with (fail)
              go_at_call 79
              refine HEQ.out.mono ?_
              rintro e wX ⟨rfl, hbX⟩
              have HST := Lib.hid (HST.out.call hbX)
              clear hbX x0 x1 x2 x3 x4 HEQ
              obtain ⟨x0, x1, x2, x3, x4⟩ := HST.out.at5 6 rfl
              cases R'
              · have hlt2 := HA.out.2.2
                have hne : was ≠ Wk := of_decide_eq_false HR'.out
                obtain ⟨hrl, hrm⟩ := Fc.fol_room (E := E) HFb.out HOK.out (W := Wk) HB.out.1 HB.out.2.1
                have hmeas : Fc.room (2 ^ 64) Wk < gk := by
                  rcases hlt2 with ⟨-, h⟩ | ⟨h1, h2, h3, h4⟩
                  · omega
                  · obtain ⟨-, h5⟩ := Fc.fol_room (E := E) HFb.out HOK.out (W := was) h2 h3
                    rw [← h1] at h5
                    rw [h4]; exact h5 (fun e => hne e.symm)
                have HME := Lib.hid hmeas
                have hencW : (Fc.encU.sl 8).R (fun b => b ∈ (Value.slice (some ⟨gW, 0, none⟩) N N).ownBlock.toList) wX [(.slice (some ⟨gW, 0, none⟩) N N)] Wk := Own.enc (f := Fc.uV) (HST.out.ok _ (.tail _ (.head _))) rfl (fun a ha => Fc.encU_of (Fc.mem_lt HB.out.2.1 a ha)) (fun b hb => hb) (by have := HB.out.1; have := HN20.out; omega)
                have hroom : ((([] : List Value).length + Wk.length : Nat) : Int) * (8 : Nat) ≤ 140737488355328 := by have := HB.out.1; have := HN20.out; simp only [List.length_nil]; omega
                have hroom2 : ((([] : List Value).length + Wk.length : Nat) : Int) ≤ 140737488355328 := by have := HB.out.1; have := HN20.out; simp only [List.length_nil]; omega
                have hstn := HST.out.drop.nilOwn 130 1
                clear hlt2 hne hrl hrm hmeas HST
                go_wp2_with (refine St.appSl Fc.u64E rfl (.const (.slice none 0 0)) (.tmp 136) rfl rfl hstn (En := Fc.encU) rfl hencW rfl Fc.uV (fun _ _ _ h => h.1) (fun a q hq => by simp [Fc.uV, Value.cells] at hq; subst hq; rfl) hroom hroom2 ?_; intro vw2 wY hst2; clear hstn hencW x0 x1 x2 x3 x4)
                have HST := Lib.hid (show St w wY [Fc.aU vw2 Wk, Fc.aU (.slice (some ⟨gW, 0, none⟩) N N) Wk, Fc.aB (.slice (some ⟨gE, 0, none⟩) N N) E, Fc.aU (.slice (some ⟨gF, 0, none⟩) N N) Fk, Fc.aB (.slice (some ⟨gM, 0, none⟩) N N) M, Fc.aB (.slice (some ⟨gR, 0, none⟩) N N) R, aCel gB 68 #[.slice (some ⟨gE, 0, none⟩) N N, .slice (some ⟨gF, 0, none⟩) N N, .slice (some ⟨gW, 0, none⟩) N N, .slice (some ⟨gR, 0, none⟩) N N, .slice (some ⟨gM, 0, none⟩) N N], aCel (w.heap.size + 1) 68 #[.slice none 0 0, .slice none 0 0, .slice none 0 0, .slice none 0 0, .slice none 0 0], aCel w.heap.size 24 #[.int .i64 t, .int .i64 N, .slice ap l.length cp]] from hst2)
                clear hst2 hroom hroom2
                go_loopg [14] l.length (fun gk2 v wr2 => ∃ (i : Nat) (Wi : List Nat), i ≤ l.length ∧ gk2 = l.length - i ∧ v = .int .i64 i ∧ Hid (Wi = Fc.fol E Fk (l.take i) Wk) ∧ Hid (Wi.length = N ∧ (∀ j, Wi.getD j 0 < 2 ^ 64)) ∧ St w wr2 [Fc.aU vw2 Wk, Fc.aU (.slice (some ⟨gW, 0, none⟩) N N) Wi, Fc.aB (.slice (some ⟨gE, 0, none⟩) N N) E, Fc.aU (.slice (some ⟨gF, 0, none⟩) N N) Fk, Fc.aB (.slice (some ⟨gM, 0, none⟩) N N) M, Fc.aB (.slice (some ⟨gR, 0, none⟩) N N) R, aCel gB 68 #[.slice (some ⟨gE, 0, none⟩) N N, .slice (some ⟨gF, 0, none⟩) N N, .slice (some ⟨gW, 0, none⟩) N N, .slice (some ⟨gR, 0, none⟩) N N, .slice (some ⟨gM, 0, none⟩) N N], aCel (w.heap.size + 1) 68 #[.slice none 0 0, .slice none 0 0, .slice none 0 0, .slice none 0 0, .slice none 0 0], aCel w.heap.size 24 #[.int .i64 t, .int .i64 N, .slice ap l.length cp]])
                case atStart => exact ⟨0, Wk, by omega, by omega, rfl, Lib.hid rfl, Lib.hid ⟨HB.out.1, HB.out.2.1⟩, HST.out⟩
                case round =>
                  clear HST
                  obtain ⟨i, Wi, hi, hgi, rfl, HWI, HLB, hst⟩ := hrel
                  have HGI := Lib.hid hgi
                  clear hgi
                  obtain ⟨g0, g1, g2⟩ := hst.at3 8 rfl
                  by_cases hlt2 : i < l.length
                  · have hsF := Fc.fol_step (E := E) (F := Fk) (X := Wk) hlt2
                    rw [← HWI.out] at hsF
                    obtain ⟨rfl, _, _⟩ := P3.out (by omega)
                    obtain ⟨vb, s1, s2, hbody, -⟩ := P4.out i hlt2
                    have hokp := HOK.out (l.getD i (0, [])) (by rw [show l.getD i (0, []) = l[i] by simp [List.getD, List.getElem?_eq_getElem hlt2]]; exact List.getElem_mem hlt2)
                    generalize l.getD i (0, []) = p at *
                    obtain ⟨h0, body⟩ := p
                    simp only at s1 s2 hbody hsF
                    have hpb := hokp.2.2
                    obtain ⟨hp0, hp1, -⟩ := hokp
                    simp only at hp0 hp1 hpb
                    obtain ⟨h, rfl⟩ := Int.eq_ofNat_of_zero_le hp0
                    rw [Int.toNat_natCast] at hsF
                    have HSF := Lib.hid hsF; have HBODY := Lib.hid hbody; have HPB := Lib.hid hpb
                    have hlt3 : (i : Int) < l.length := by omega
                    have hi40 : (i : Int) < 40 := by have := HL.out; omega
                    have s1 := bkeep hst.bel s1
                    have s2 := bkeep hst.bel s2
                    obtain ⟨ab, bb, ob, cb, rfl, hbl, b3, b4⟩ := slTwo hbody
                    have B3 := Lib.hid b3; have B4 := Lib.hid b4
                    have hbl2 : (body.length : Int) ≤ 140737488355328 := by omega
                    have HST := Lib.hid (hst.alloc #[.int .i64 h, .slice ab body.length cb] 112)
                    clear hst hsF hbody hpb hp0 hbl b3 b4
                    rename World => wz
                    go_wp2
                    clear g0 g1 g2 s1 s2
                    go_loopg [16] body.length (fun gk3 v wr3 => ∃ (d : Nat) (Wd : List Nat), d ≤ body.length ∧ gk3 = body.length - d ∧ v = .int .i64 d ∧ Hid (Wd.length = N ∧ (∀ j, Wd.getD j 0 < 2 ^ 64)) ∧ Hid (Fc.folB E Fk h (body.drop d) Wd = Fc.folB E Fk h body Wi) ∧ St w wr3 [aCel wz.heap.size 112 #[.int .i64 h, .slice ab body.length cb], Fc.aU vw2 Wk, Fc.aU (.slice (some ⟨gW, 0, none⟩) N N) Wd, Fc.aB (.slice (some ⟨gE, 0, none⟩) N N) E, Fc.aU (.slice (some ⟨gF, 0, none⟩) N N) Fk, Fc.aB (.slice (some ⟨gM, 0, none⟩) N N) M, Fc.aB (.slice (some ⟨gR, 0, none⟩) N N) R, aCel gB 68 #[.slice (some ⟨gE, 0, none⟩) N N, .slice (some ⟨gF, 0, none⟩) N N, .slice (some ⟨gW, 0, none⟩) N N, .slice (some ⟨gR, 0, none⟩) N N, .slice (some ⟨gM, 0, none⟩) N N], aCel (w.heap.size + 1) 68 #[.slice none 0 0, .slice none 0 0, .slice none 0 0, .slice none 0 0, .slice none 0 0], aCel w.heap.size 24 #[.int .i64 t, .int .i64 N, .slice (some ⟨bp, op, none⟩) l.length cp]])
                    case atStart => exact ⟨0, Wi, by omega, by omega, rfl, HLB, Lib.hid rfl, HST.out⟩
                    case round =>
                      clear HST
                      obtain ⟨d, Wd, hd, hgd, rfl, HLD, HFB, hst⟩ := hrel
                      have HGD := Lib.hid hgd
                      clear hgd
                      obtain ⟨p0, p1⟩ := hst.at2 0 rfl
                      by_cases hlt4 : d < body.length
                      · obtain ⟨rfl, _, _⟩ := B3.out (by omega)
                        obtain ⟨s1, s2, -, -⟩ := B4.out d hlt4
                        have hdr := Fc.drop_at hlt4 (0, 0)
                        have hxx := HPB.out (body.getD d (0, 0)) (by rw [show body.getD d (0, 0) = body[d] by simp [List.getD, List.getElem?_eq_getElem hlt4]]; exact List.getElem_mem hlt4)
                        have hfb := HFB.out
                        rw [hdr, Fc.folB_cons] at hfb
                        generalize body.getD d (0, 0) = x at *
                        obtain ⟨x1, x2⟩ := x
                        simp only at s1 s2 hxx hfb
                        have c1 := bkeep hst.bel s1
                        have c2 := bkeep hst.bel s2
                        have hlt5 : (d : Int) < body.length := by omega
                        rcases hxx with ⟨rfl, h0, -⟩ | ⟨rfl, h0, h1⟩
                        · rw [if_neg (by decide)] at hfb
                          have HFB2 := Lib.hid hfb
                          have HST := Lib.hid hst
                          clear s1 s2 hst hfb hdr HFB
                          go_wp2
                          go_roundg (body.length - (d + 1))
                          case measure => have := HGD.out; omega
                          case rel => exact ⟨d + 1, Wd, by omega, rfl, by go_num, HLD, HFB2, HST.out⟩
                        · obtain ⟨y, rfl⟩ := Int.eq_ofNat_of_zero_le h0
                          rw [if_pos rfl, Int.toNat_natCast] at hfb
                          have hy : y < Wd.length := by rw [HLD.out.1]; omega
                          have hh : h < Wd.length := by rw [HLD.out.1]; omega
                          have hhn : (h : Int) < N := by omega
                          have hyn : (y : Int) < N := by omega
                          have hencb : (Enc.two.sl 16).R F w [Go.sliced (some ⟨bb, ob, none⟩) (d + 1) body.length cb 2] (body.drop (d + 1)) := by
                            have := Enc.sliced HBODY.out (d + 1) body.length (by omega) (Nat.le_refl _)
                            rw [List.take_length] at this
                            exact this
                          have hbg := Fc.beg_lt (E := E) (b := Wd.getD h 0) (body := body.drop (d + 1)) HFb.out (HLD.out.2 h) (fun x hx h1 => by rcases HPB.out x (List.mem_of_mem_drop hx) with ⟨-, a, b⟩ | ⟨a, -⟩ <;> omega)
                          have hbc : body.length ≤ cb := by
                            obtain ⟨_, _, _, _, hq, hle, _⟩ := HBODY.out
                            simp only [List.cons.injEq, Value.slice.injEq, and_true, true_and] at hq
                            omega
                          have hs1 : ∀ W, (Instr.slice 110 (.slice (some ⟨bb, ob, none⟩) body.length cb) (some (.int .i64 ((d : Int) + 1))) none none).run Try.prog W = .ok (Go.sliced (some ⟨bb, ob, none⟩) (d + 1) body.length cb 2) W := fun W => by
                            have hsz : (sizeOf (Try.prog.elem 110)).run Try.prog W = .ok 2 W := by kernel_rfl
                            have := run_slice_l (P := Try.prog) W 110 (some ⟨bb, ob, none⟩) body.length cb (by kernel_rfl) .i64 (d + 1) (by omega) (by omega)
                            rw [hsz] at this
                            exact this
                          have HBEG := Lib.hid fun W μ hs => fcRBeg_any w gE N N gF N N (.slice (some ⟨gW, 0, none⟩) N N) (.slice (some ⟨gR, 0, none⟩) N N) (.slice (some ⟨gM, 0, none⟩) N N) E Fk (Wd.getD h 0) F (by rw [HEl.out]) (by rw [HFl.out]) (by rw [HFl.out, HEl.out]) (fun i => HFb.out i) (HLD.out.2 h) (body.drop (d + 1)) (Go.sliced (some ⟨bb, ob, none⟩) (d + 1) body.length cb 2) W μ hencb (fun x hx => by rw [HEl.out]; rcases HPB.out x (List.mem_of_mem_drop hx) with ⟨a, b, c⟩ | ⟨a, b, c⟩; exact .inl ⟨a, b, by omega⟩; exact .inr ⟨a, b, c⟩) hs
                          generalize Go.sliced (some ⟨bb, ob, none⟩) (d + 1) body.length cb 2 = V1 at hs1 HBEG
                          have hup : Fc.up Wd y (Fc.beg E Fk (Wd.getD h 0) (body.drop (d + 1))) = Wd.set y (Wd.getD y 0 ||| Fc.beg E Fk (Wd.getD h 0) (body.drop (d + 1))) := rfl
                          have hul := Fc.up_lt (k := 64) (W := Wd) (i := y) HLD.out.2 hbg
                          have hbo := bits_or_u64_nat (Wd.getD y 0) (Fc.beg E Fk (Wd.getD h 0) (body.drop (d + 1))) (HLD.out.2 y) hbg
                          have HHC := Lib.hid fun (W : World) (hs : St w W (Fc.aU (.slice (some ⟨gW, 0, none⟩) N N) Wd :: [])) => (show W.cell? ⟨gW, h, none⟩ = some (.int .u64 ((Wd.getD h 0 : Nat) : Int)) from ((show St w W (aOwn 130 1 (.slice (some ⟨gW, 0, none⟩) N N) (Wd.map Fc.uV) :: []) from hs).cellOwn (f := Fc.uV) (fun _ => rfl) h hh 0).1)
                          have HYC := Lib.hid fun (W : World) (hs : St w W (Fc.aU (.slice (some ⟨gW, 0, none⟩) N N) Wd :: [])) => (show W.cell? ⟨gW, y, none⟩ = some (.int .u64 ((Wd.getD y 0 : Nat) : Int)) ∧ W.frozen? ⟨gW, y, none⟩ = false from ((show St w W (aOwn 130 1 (.slice (some ⟨gW, 0, none⟩) N N) (Wd.map Fc.uV) :: []) from hs).cellOwn (f := Fc.uV) (fun _ => rfl) y hy 0))
                          rw [hup] at hfb hul
                          generalize Fc.beg E Fk (Wd.getD h 0) (body.drop (d + 1)) = bg at *
                          generalize (Wd.getD y 0 ||| bg : Nat) = z at *
                          generalize Wd.getD y 0 = yv at *
                          generalize Wd.getD h 0 = hv at *
                          have HBO := Lib.hid hbo; have HFB2 := Lib.hid hfb; have HUL := Lib.hid hul
                          have hwr : IntKind.i64.wrap (↑d + 1) = ↑d + 1 := IntWalk.i64_in _ (by omega)
                          have hwr0 : (0 : Int) ≤ ↑d + 1 := by omega
                          have hwr1 : ((d : Int) + 1).toNat = d + 1 := by omega
                          have hwr2 : (d : Int) + 1 ≤ body.length := by omega
                          have HSTD := Lib.hid (hst.drew.pick (ρ := [Fc.aB (.slice (some ⟨gE, 0, none⟩) N N) E, Fc.aU (.slice (some ⟨gF, 0, none⟩) N N) Fk, Fc.aU (.slice (some ⟨gW, 0, none⟩) N N) Wd, aCel wz.heap.size 112 #[.int .i64 h, .slice (some ⟨bb, ob, none⟩) body.length cb], Fc.aU vw2 Wk, Fc.aB (.slice (some ⟨gM, 0, none⟩) N N) M, Fc.aB (.slice (some ⟨gR, 0, none⟩) N N) R, aCel gB 68 #[.slice (some ⟨gE, 0, none⟩) N N, .slice (some ⟨gF, 0, none⟩) N N, .slice (some ⟨gW, 0, none⟩) N N, .slice (some ⟨gR, 0, none⟩) N N, .slice (some ⟨gM, 0, none⟩) N N], aCel (w.heap.size + 1) 68 #[.slice none 0 0, .slice none 0 0, .slice none 0 0, .slice none 0 0, .slice none 0 0], aCel w.heap.size 24 #[.int .i64 t, .int .i64 N, .slice (some ⟨bp, op, none⟩) l.length cp]]) [3, 4, 2, 0, 1, 5, 6, 7, 8, 9] 10 rfl rfl)
                          have hC := HHC.out _ (HSTD.out.nth 2 rfl)
                          obtain ⟨yC, yF⟩ := HYC.out _ (HSTD.out.nth 2 rfl)
                          obtain ⟨x0, x1, x2, x3, x4⟩ := HSTD.out.at5 7 rfl
                          have S2 := Lib.hid s2
                          clear s1 s2 hst hfb hdr HFB hy hh hbg hencb hbc hup hul hbo
                          go_wp2
                          refine wp_region_held_drew (S := (fun w' => w'.cell? ⟨gB, 0, none⟩ = some (.slice (some ⟨gE, 0, none⟩) N N) ∧ w'.cell? ⟨gB, 1, none⟩ = some (.slice (some ⟨gF, 0, none⟩) N N) ∧ w'.cell? ⟨gB, 2, none⟩ = some (.slice (some ⟨gW, 0, none⟩) N N) ∧ w'.cell? ⟨gB, 3, none⟩ = some (.slice (some ⟨gR, 0, none⟩) N N) ∧ w'.cell? ⟨gB, 4, none⟩ = some (.slice (some ⟨gM, 0, none⟩) N N) ∧ w'.cell? ⟨wz.heap.size, 0, none⟩ = some (.int .i64 h) ∧ w'.cell? ⟨wz.heap.size, 1, none⟩ = some (.slice (some ⟨bb, ob, none⟩) body.length cb) ∧ w'.cell? ⟨bb, ob + d * 2 + 1, none⟩ = some (.int .i64 y))) (by kernel_rfl) ?_ (fun hHeld => ?_)
                          · (try dsimp only); (first | exact ⟨x0, x1, x2, x3, x4, p0, p1, c2⟩ | exact ⟨y0, y1, y2, y3, y4, q0, q1, cc2⟩ | go_keep)

                          refine wpAnyH_take (i := 0) (v := ?_) rfl (by kernel_rfl) (by kernel_rfl) (by kernel_rfl) (fun _ _ _ h => h) (Or.inl ⟨by rfl, ?_⟩) (by assumption) ?_
                          rotate_left; focus (intro w hSw; (try dsimp only at hSw); go_simp; try (with_reducible rfl); done)
                          try simp only [List.getElem_toArray, List.getElem_cons_zero, List.getElem_cons_succ, Act.put, List.setIfInBounds_toArray, List.set_cons_zero, List.set_cons_succ]
                          refine wpAnyH_take (i := 1) (v := ?_) rfl (by kernel_rfl) (by kernel_rfl) (by kernel_rfl) (fun _ _ _ h => h) (Or.inl ⟨by rfl, ?_⟩) (by assumption) ?_
                          rotate_left; focus (intro w hSw; (try dsimp only at hSw); go_simp; try (with_reducible rfl); done)
                          try simp only [List.getElem_toArray, List.getElem_cons_zero, List.getElem_cons_succ, Act.put, List.setIfInBounds_toArray, List.set_cons_zero, List.set_cons_succ]
                          refine wpAnyH_take (i := 2) (v := ?_) rfl (by kernel_rfl) (by kernel_rfl) (by kernel_rfl) (fun _ _ _ h => h) (Or.inl ⟨by rfl, ?_⟩) (by assumption) ?_
                          rotate_left; focus (intro w hSw; (try dsimp only at hSw); go_simp; try (with_reducible rfl); done)
                          try simp only [List.getElem_toArray, List.getElem_cons_zero, List.getElem_cons_succ, Act.put, List.setIfInBounds_toArray, List.set_cons_zero, List.set_cons_succ]
                          refine wpAnyH_take (i := 3) (v := ?_) rfl (by kernel_rfl) (by kernel_rfl) (by kernel_rfl) (fun _ _ _ h => h) (Or.inl ⟨by rfl, ?_⟩) (by assumption) ?_
                          rotate_left; focus (intro w hSw; (try dsimp only at hSw); go_simp; try (with_reducible rfl); done)
                          try simp only [List.getElem_toArray, List.getElem_cons_zero, List.getElem_cons_succ, Act.put, List.setIfInBounds_toArray, List.set_cons_zero, List.set_cons_succ]
                          refine wpAnyH_take (i := 4) (v := ?_) rfl (by kernel_rfl) (by kernel_rfl) (by kernel_rfl) (fun _ _ _ h => h) (Or.inl ⟨by rfl, ?_⟩) (by assumption) ?_
                          rotate_left; focus (intro w hSw; (try dsimp only at hSw); go_simp; try (with_reducible rfl); done)
                          try simp only [List.getElem_toArray, List.getElem_cons_zero, List.getElem_cons_succ, Act.put, List.setIfInBounds_toArray, List.set_cons_zero, List.set_cons_succ]
                          refine wpAnyH_take (i := 5) (v := ?_) rfl (by kernel_rfl) (by kernel_rfl) (by kernel_rfl) (fun _ _ _ h => h) (Or.inl ⟨by rfl, ?_⟩) (by assumption) ?_
                          rotate_left; focus (intro w hSw; (try dsimp only at hSw); go_simp; try (with_reducible rfl); done)
                          try simp only [List.getElem_toArray, List.getElem_cons_zero, List.getElem_cons_succ, Act.put, List.setIfInBounds_toArray, List.set_cons_zero, List.set_cons_succ]
                          refine wpAnyH_take (i := 6) (v := ?_) rfl (by kernel_rfl) (by kernel_rfl) (by kernel_rfl) (fun _ _ _ h => h) (Or.inl ⟨by rfl, ?_⟩) (by assumption) ?_
                          rotate_left; focus (intro w hSw; (try dsimp only at hSw); go_simp; try (with_reducible rfl); done)
                          try simp only [List.getElem_toArray, List.getElem_cons_zero, List.getElem_cons_succ, Act.put, List.setIfInBounds_toArray, List.set_cons_zero, List.set_cons_succ]
                          refine wpAnyH_take (i := 7) (v := ?_) rfl (by kernel_rfl) (by kernel_rfl) (by kernel_rfl) (fun _ _ _ h => h) (Or.inl ⟨by rfl, ?_⟩) (by assumption) ?_
                          rotate_left; focus (intro w hSw; (try dsimp only at hSw); go_simp; try (with_reducible rfl); done)
                          try simp only [List.getElem_toArray, List.getElem_cons_zero, List.getElem_cons_succ, Act.put, List.setIfInBounds_toArray, List.set_cons_zero, List.set_cons_succ]
                          refine wpAnyH_take (i := 8) (v := ?_) rfl (by kernel_rfl) (by kernel_rfl) (by kernel_rfl) (fun _ _ _ h => h) (Or.inl ⟨by rfl, ?_⟩) (by assumption) ?_
                          rotate_left; focus (intro w hSw; (try dsimp only at hSw); go_simp; try (with_reducible rfl); done)
                          try simp only [List.getElem_toArray, List.getElem_cons_zero, List.getElem_cons_succ, Act.put, List.setIfInBounds_toArray, List.set_cons_zero, List.set_cons_succ]
                          refine wpAnyH_take (i := 10) (v := ?_) rfl (by kernel_rfl) (by kernel_rfl) (by kernel_rfl) (fun _ _ _ h => h) (Or.inl ⟨by rfl, ?_⟩) (by assumption) ?_
                          rotate_left; focus (intro w hSw; (try dsimp only at hSw); go_simp; try (with_reducible rfl); done)
                          try simp only [List.getElem_toArray, List.getElem_cons_zero, List.getElem_cons_succ, Act.put, List.setIfInBounds_toArray, List.set_cons_zero, List.set_cons_succ]
                          refine wpAnyH_take (i := 11) (v := ?_) rfl (by kernel_rfl) (by kernel_rfl) (by kernel_rfl) (fun _ _ _ h => h) (Or.inl ⟨by rfl, ?_⟩) (by assumption) ?_
                          rotate_left; focus (intro w hSw; (try dsimp only at hSw); go_simp; try (with_reducible rfl); done)
                          try simp only [List.getElem_toArray, List.getElem_cons_zero, List.getElem_cons_succ, Act.put, List.setIfInBounds_toArray, List.set_cons_zero, List.set_cons_succ]
                          refine wpAnyH_take (i := 12) (v := ?_) rfl (by kernel_rfl) (by kernel_rfl) (by kernel_rfl) (fun _ _ _ h => h) (Or.inl ⟨by rfl, ?_⟩) (by assumption) ?_
                          rotate_left; focus (intro w hSw; (try dsimp only at hSw); go_simp; try (with_reducible rfl); done)
                          try simp only [List.getElem_toArray, List.getElem_cons_zero, List.getElem_cons_succ, Act.put, List.setIfInBounds_toArray, List.set_cons_zero, List.set_cons_succ]
                          refine wpAnyH_take (i := 13) (v := ?_) rfl (by kernel_rfl) (by kernel_rfl) (by kernel_rfl) (fun _ _ _ h => h) (Or.inl ⟨by rfl, ?_⟩) (by assumption) ?_
                          rotate_left; focus (intro w hSw; (try dsimp only at hSw); go_simp; try (with_reducible rfl); done)
                          try simp only [List.getElem_toArray, List.getElem_cons_zero, List.getElem_cons_succ, Act.put, List.setIfInBounds_toArray, List.set_cons_zero, List.set_cons_succ]
                          refine wpAnyH_take (i := 14) (v := ?_) rfl (by kernel_rfl) (by kernel_rfl) (by kernel_rfl) (fun _ _ _ h => h) (Or.inl ⟨by rfl, ?_⟩) (by assumption) ?_
                          rotate_left; focus (intro w hSw; (try dsimp only at hSw); go_simp; try (with_reducible rfl); done)
                          try simp only [List.getElem_toArray, List.getElem_cons_zero, List.getElem_cons_succ, Act.put, List.setIfInBounds_toArray, List.set_cons_zero, List.set_cons_succ]
                          refine wpAnyH_take (i := 15) (v := ?_) rfl (by kernel_rfl) (by kernel_rfl) (by kernel_rfl) (fun _ _ _ h => h) (Or.inl ⟨by rfl, ?_⟩) (by assumption) ?_
                          rotate_left; focus (intro w hSw; (try dsimp only at hSw); go_simp; try (with_reducible rfl); done)
                          try simp only [List.getElem_toArray, List.getElem_cons_zero, List.getElem_cons_succ, Act.put, List.setIfInBounds_toArray, List.set_cons_zero, List.set_cons_succ]
                          refine wpAnyH_take (i := 16) (v := ?_) rfl (by kernel_rfl) (by kernel_rfl) (by kernel_rfl) (fun _ _ _ h => h) (Or.inl ⟨by rfl, ?_⟩) (by assumption) ?_
                          rotate_left; focus (intro w hSw; (try dsimp only at hSw); go_simp; try (with_reducible rfl); done)
                          try simp only [List.getElem_toArray, List.getElem_cons_zero, List.getElem_cons_succ, Act.put, List.setIfInBounds_toArray, List.set_cons_zero, List.set_cons_succ]
                          refine wpAnyH_take (i := 17) (v := ?_) rfl (by kernel_rfl) (by kernel_rfl) (by kernel_rfl) (fun _ _ _ h => h) (Or.inl ⟨by rfl, ?_⟩) (by assumption) ?_
                          rotate_left; focus (intro w hSw; (try dsimp only at hSw); go_simp; try (with_reducible rfl); done)
                          try simp only [List.getElem_toArray, List.getElem_cons_zero, List.getElem_cons_succ, Act.put, List.setIfInBounds_toArray, List.set_cons_zero, List.set_cons_succ]
                          refine wpAnyH_take (i := 18) (v := ?_) rfl (by kernel_rfl) (by kernel_rfl) (by kernel_rfl) (fun _ _ _ h => h) (Or.inl ⟨by rfl, ?_⟩) (by assumption) ?_
                          rotate_left; focus (intro w hSw; (try dsimp only at hSw); go_simp; try (with_reducible rfl); done)
                          try simp only [List.getElem_toArray, List.getElem_cons_zero, List.getElem_cons_succ, Act.put, List.setIfInBounds_toArray, List.set_cons_zero, List.set_cons_succ]
                          refine wpAnyH_take (i := 19) (v := ?_) rfl (by kernel_rfl) (by kernel_rfl) (by kernel_rfl) (fun _ _ _ h => h) (Or.inl ⟨by rfl, ?_⟩) (by assumption) ?_
                          rotate_left; focus (intro w hSw; (try dsimp only at hSw); go_simp; try (with_reducible rfl); done)
                          try simp only [List.getElem_toArray, List.getElem_cons_zero, List.getElem_cons_succ, Act.put, List.setIfInBounds_toArray, List.set_cons_zero, List.set_cons_succ]
                          refine wpAnyH_take (i := 20) (v := ?_) rfl (by kernel_rfl) (by kernel_rfl) (by kernel_rfl) (fun _ _ _ h => h) (Or.inl ⟨by rfl, ?_⟩) (by assumption) ?_
                          rotate_left; focus (intro w hSw; (try dsimp only at hSw); go_simp; try (with_reducible rfl); done)
                          try simp only [List.getElem_toArray, List.getElem_cons_zero, List.getElem_cons_succ, Act.put, List.setIfInBounds_toArray, List.set_cons_zero, List.set_cons_succ]
                          refine wpAnyH_ready (rs := [9, 21]) (by kernel_rfl) (by simp) ?_
                          refine AllReadyH.cons rfl (fun K hK => ?_) (AllReadyH.cons rfl (fun K hK => ?_) (AllReadyH.nil))
                          · skip
                            go_simp
                            refine hK.out _ _ ?_ (fun hHeld => ?_)
                            · (try dsimp only); (first | exact ⟨x0, x1, x2, x3, x4, p0, p1, c2⟩ | exact ⟨y0, y1, y2, y3, y4, q0, q1, cc2⟩ | go_keep)
                            clear hK K
                            try simp only [List.getElem_toArray, List.getElem_cons_zero, List.getElem_cons_succ, Act.put, List.setIfInBounds_toArray, List.set_cons_zero, List.set_cons_succ]
                            refine wpAnyH_ready (rs := [21]) (by kernel_rfl) (by simp) ?_
                            refine AllReadyH.cons rfl (fun K hK => ?_) (AllReadyH.nil)
                            go_simp
                            refine hK.out _ _ ?_ (fun hHeld => ?_)
                            · (try dsimp only); (first | exact ⟨x0, x1, x2, x3, x4, p0, p1, c2⟩ | exact ⟨y0, y1, y2, y3, y4, q0, q1, cc2⟩ | go_keep)
                            clear hK K
                            try simp only [List.getElem_toArray, List.getElem_cons_zero, List.getElem_cons_succ, Act.put, List.setIfInBounds_toArray, List.set_cons_zero, List.set_cons_succ]
                            refine wpAnyH_ready (rs := [22]) (by kernel_rfl) (by simp) ?_
                            refine AllReadyH.cons rfl (fun K hK => ?_) (AllReadyH.nil)
                            go_simp
                            (go_at_call 80; refine (HBEG.out _ _ HSTD.out).mono ?_; rintro e w8 ⟨rfl, hst8⟩; obtain ⟨x0, x1, x2, x3, x4⟩ := hst8.at5 7 rfl; obtain ⟨p0, p1⟩ := hst8.at2 3 rfl; have c2 := bkeep hst8.bel S2.out; obtain ⟨yC, yF⟩ := HYC.out _ (hst8.nth 2 rfl); have hst9 := (show St w w8 (aOwn 130 1 (.slice (some ⟨gW, 0, none⟩) N N) (Wd.map Fc.uV) :: _) from hst8.pick [2, 0, 1, 3, 4, 5, 6, 7, 8, 9] 10 rfl rfl).setOwn (f := Fc.uV) (fun _ => rfl) y z; have hst9 := (show St w (w8.setCell ⟨gW, y, none⟩ (.int .u64 (bits .or .u64 (yv : Int) (bg : Int)))) _ from by rw [HBO.out]; exact hst9); obtain ⟨y0, y1, y2, y3, y4⟩ := hst9.at5 7 rfl; obtain ⟨q0, q1⟩ := hst9.at2 3 rfl; have cc2 := bkeep hst9.bel S2.out; have HST9 := Lib.hid hst9; clear hst8 hst9)
                            refine hK.out _ _ ?_ (fun hHeld => ?_)
                            · (try dsimp only); (first | exact ⟨x0, x1, x2, x3, x4, p0, p1, c2⟩ | exact ⟨y0, y1, y2, y3, y4, q0, q1, cc2⟩ | go_keep)
                            clear hK K
                            try simp only [List.getElem_toArray, List.getElem_cons_zero, List.getElem_cons_succ, Act.put, List.setIfInBounds_toArray, List.set_cons_zero, List.set_cons_succ]
                            refine wpAnyH_take (i := 23) (v := ?_) rfl (by kernel_rfl) (by kernel_rfl) (by kernel_rfl) (fun _ _ _ h => h) (Or.inl ⟨by rfl, ?_⟩) (by assumption) ?_
                            rotate_left; focus (intro w hSw; (try dsimp only at hSw); go_simp; try (with_reducible rfl); done)
                            try simp only [List.getElem_toArray, List.getElem_cons_zero, List.getElem_cons_succ, Act.put, List.setIfInBounds_toArray, List.set_cons_zero, List.set_cons_succ]
                            refine wpAnyH_take (i := 24) (v := ?_) rfl (by kernel_rfl) (by kernel_rfl) (by kernel_rfl) (fun _ _ _ h => h) (Or.inl ⟨by rfl, ?_⟩) (by assumption) ?_
                            rotate_left; focus (intro w hSw; (try dsimp only at hSw); go_simp; try (with_reducible rfl); done)
                            try simp only [List.getElem_toArray, List.getElem_cons_zero, List.getElem_cons_succ, Act.put, List.setIfInBounds_toArray, List.set_cons_zero, List.set_cons_succ]
                            refine wpAnyH_ready (rs := [25]) (by kernel_rfl) (by simp) ?_
                            refine AllReadyH.cons rfl (fun K hK => ?_) AllReadyH.nil
                            go_simp
                            refine hK.out _ _ ?_ (fun hHeld => ?_)
                            · (try dsimp only); (first | exact ⟨x0, x1, x2, x3, x4, p0, p1, c2⟩ | exact ⟨y0, y1, y2, y3, y4, q0, q1, cc2⟩ | go_keep)
                            clear hK K
                            try simp only [List.getElem_toArray, List.getElem_cons_zero, List.getElem_cons_succ, Act.put, List.setIfInBounds_toArray, List.set_cons_zero, List.set_cons_succ]
                            refine wpAnyH_done (by kernel_rfl) ?_ _
                            (clear HBEG HHC HYC hs1 hwr hwr1; go_wp2; go_roundg (body.length - (d + 1)); (case measure => (have := HGD.out; omega)); (case rel => exact ⟨d + 1, _, by omega, rfl, by go_num, Lib.hid ⟨by rw [List.length_set]; exact HLD.out.1, HUL.out⟩, HFB2, HST9.out.pick [3, 4, 0, 1, 2, 5, 6, 7, 8, 9] 10 rfl rfl⟩))
                          · skip
                            go_simp
                            refine hK.out _ _ ?_ (fun hHeld => ?_)
                            · (try dsimp only); (first | exact ⟨x0, x1, x2, x3, x4, p0, p1, c2⟩ | exact ⟨y0, y1, y2, y3, y4, q0, q1, cc2⟩ | go_keep)
                            clear hK K
                            try simp only [List.getElem_toArray, List.getElem_cons_zero, List.getElem_cons_succ, Act.put, List.setIfInBounds_toArray, List.set_cons_zero, List.set_cons_succ]
                            refine wpAnyH_ready (rs := [9, 22]) (by kernel_rfl) (by simp) ?_
                            refine AllReadyH.cons rfl (fun K hK => ?_) (AllReadyH.cons rfl (fun K hK => ?_) (AllReadyH.nil))
                            · skip
                              go_simp
                              refine hK.out _ _ ?_ (fun hHeld => ?_)
                              · (try dsimp only); (first | exact ⟨x0, x1, x2, x3, x4, p0, p1, c2⟩ | exact ⟨y0, y1, y2, y3, y4, q0, q1, cc2⟩ | go_keep)
                              clear hK K
                              try simp only [List.getElem_toArray, List.getElem_cons_zero, List.getElem_cons_succ, Act.put, List.setIfInBounds_toArray, List.set_cons_zero, List.set_cons_succ]
                              refine wpAnyH_ready (rs := [22]) (by kernel_rfl) (by simp) ?_
                              refine AllReadyH.cons rfl (fun K hK => ?_) (AllReadyH.nil)
                              go_simp
                              (go_at_call 80; refine (HBEG.out _ _ HSTD.out).mono ?_; rintro e w8 ⟨rfl, hst8⟩; obtain ⟨x0, x1, x2, x3, x4⟩ := hst8.at5 7 rfl; obtain ⟨p0, p1⟩ := hst8.at2 3 rfl; have c2 := bkeep hst8.bel S2.out; obtain ⟨yC, yF⟩ := HYC.out _ (hst8.nth 2 rfl); have hst9 := (show St w w8 (aOwn 130 1 (.slice (some ⟨gW, 0, none⟩) N N) (Wd.map Fc.uV) :: _) from hst8.pick [2, 0, 1, 3, 4, 5, 6, 7, 8, 9] 10 rfl rfl).setOwn (f := Fc.uV) (fun _ => rfl) y z; have hst9 := (show St w (w8.setCell ⟨gW, y, none⟩ (.int .u64 (bits .or .u64 (yv : Int) (bg : Int)))) _ from by rw [HBO.out]; exact hst9); obtain ⟨y0, y1, y2, y3, y4⟩ := hst9.at5 7 rfl; obtain ⟨q0, q1⟩ := hst9.at2 3 rfl; have cc2 := bkeep hst9.bel S2.out; have HST9 := Lib.hid hst9; clear hst8 hst9)
                              refine hK.out _ _ ?_ (fun hHeld => ?_)
                              · (try dsimp only); (first | exact ⟨x0, x1, x2, x3, x4, p0, p1, c2⟩ | exact ⟨y0, y1, y2, y3, y4, q0, q1, cc2⟩ | go_keep)
                              clear hK K
                              try simp only [List.getElem_toArray, List.getElem_cons_zero, List.getElem_cons_succ, Act.put, List.setIfInBounds_toArray, List.set_cons_zero, List.set_cons_succ]
                              refine wpAnyH_take (i := 23) (v := ?_) rfl (by kernel_rfl) (by kernel_rfl) (by kernel_rfl) (fun _ _ _ h => h) (Or.inl ⟨by rfl, ?_⟩) (by assumption) ?_
                              rotate_left; focus (intro w hSw; (try dsimp only at hSw); go_simp; try (with_reducible rfl); done)
                              try simp only [List.getElem_toArray, List.getElem_cons_zero, List.getElem_cons_succ, Act.put, List.setIfInBounds_toArray, List.set_cons_zero, List.set_cons_succ]
                              refine wpAnyH_take (i := 24) (v := ?_) rfl (by kernel_rfl) (by kernel_rfl) (by kernel_rfl) (fun _ _ _ h => h) (Or.inl ⟨by rfl, ?_⟩) (by assumption) ?_
                              rotate_left; focus (intro w hSw; (try dsimp only at hSw); go_simp; try (with_reducible rfl); done)
                              try simp only [List.getElem_toArray, List.getElem_cons_zero, List.getElem_cons_succ, Act.put, List.setIfInBounds_toArray, List.set_cons_zero, List.set_cons_succ]
                              refine wpAnyH_ready (rs := [25]) (by kernel_rfl) (by simp) ?_
                              refine AllReadyH.cons rfl (fun K hK => ?_) AllReadyH.nil
                              go_simp
                              refine hK.out _ _ ?_ (fun hHeld => ?_)
                              · (try dsimp only); (first | exact ⟨x0, x1, x2, x3, x4, p0, p1, c2⟩ | exact ⟨y0, y1, y2, y3, y4, q0, q1, cc2⟩ | go_keep)
                              clear hK K
                              try simp only [List.getElem_toArray, List.getElem_cons_zero, List.getElem_cons_succ, Act.put, List.setIfInBounds_toArray, List.set_cons_zero, List.set_cons_succ]
                              refine wpAnyH_done (by kernel_rfl) ?_ _
                              (clear HBEG HHC HYC hs1 hwr hwr1; go_wp2; go_roundg (body.length - (d + 1)); (case measure => (have := HGD.out; omega)); (case rel => exact ⟨d + 1, _, by omega, rfl, by go_num, Lib.hid ⟨by rw [List.length_set]; exact HLD.out.1, HUL.out⟩, HFB2, HST9.out.pick [3, 4, 0, 1, 2, 5, 6, 7, 8, 9] 10 rfl rfl⟩))
                            · skip
                              go_simp
                              (go_at_call 80; refine (HBEG.out _ _ HSTD.out).mono ?_; rintro e w8 ⟨rfl, hst8⟩; obtain ⟨x0, x1, x2, x3, x4⟩ := hst8.at5 7 rfl; obtain ⟨p0, p1⟩ := hst8.at2 3 rfl; have c2 := bkeep hst8.bel S2.out; obtain ⟨yC, yF⟩ := HYC.out _ (hst8.nth 2 rfl); have hst9 := (show St w w8 (aOwn 130 1 (.slice (some ⟨gW, 0, none⟩) N N) (Wd.map Fc.uV) :: _) from hst8.pick [2, 0, 1, 3, 4, 5, 6, 7, 8, 9] 10 rfl rfl).setOwn (f := Fc.uV) (fun _ => rfl) y z; have hst9 := (show St w (w8.setCell ⟨gW, y, none⟩ (.int .u64 (bits .or .u64 (yv : Int) (bg : Int)))) _ from by rw [HBO.out]; exact hst9); obtain ⟨y0, y1, y2, y3, y4⟩ := hst9.at5 7 rfl; obtain ⟨q0, q1⟩ := hst9.at2 3 rfl; have cc2 := bkeep hst9.bel S2.out; have HST9 := Lib.hid hst9; clear hst8 hst9)
                              refine hK.out _ _ ?_ (fun hHeld => ?_)
                              · (try dsimp only); (first | exact ⟨x0, x1, x2, x3, x4, p0, p1, c2⟩ | exact ⟨y0, y1, y2, y3, y4, q0, q1, cc2⟩ | go_keep)
                              clear hK K
                              try simp only [List.getElem_toArray, List.getElem_cons_zero, List.getElem_cons_succ, Act.put, List.setIfInBounds_toArray, List.set_cons_zero, List.set_cons_succ]
                              refine wpAnyH_ready (rs := [9]) (by kernel_rfl) (by simp) ?_
                              refine AllReadyH.cons rfl (fun K hK => ?_) (AllReadyH.nil)
                              go_simp
                              refine hK.out _ _ ?_ (fun hHeld => ?_)
                              · (try dsimp only); (first | exact ⟨x0, x1, x2, x3, x4, p0, p1, c2⟩ | exact ⟨y0, y1, y2, y3, y4, q0, q1, cc2⟩ | go_keep)
                              clear hK K
                              try simp only [List.getElem_toArray, List.getElem_cons_zero, List.getElem_cons_succ, Act.put, List.setIfInBounds_toArray, List.set_cons_zero, List.set_cons_succ]
                              refine wpAnyH_take (i := 23) (v := ?_) rfl (by kernel_rfl) (by kernel_rfl) (by kernel_rfl) (fun _ _ _ h => h) (Or.inl ⟨by rfl, ?_⟩) (by assumption) ?_
                              rotate_left; focus (intro w hSw; (try dsimp only at hSw); go_simp; try (with_reducible rfl); done)
                              try simp only [List.getElem_toArray, List.getElem_cons_zero, List.getElem_cons_succ, Act.put, List.setIfInBounds_toArray, List.set_cons_zero, List.set_cons_succ]
                              refine wpAnyH_take (i := 24) (v := ?_) rfl (by kernel_rfl) (by kernel_rfl) (by kernel_rfl) (fun _ _ _ h => h) (Or.inl ⟨by rfl, ?_⟩) (by assumption) ?_
                              rotate_left; focus (intro w hSw; (try dsimp only at hSw); go_simp; try (with_reducible rfl); done)
                              try simp only [List.getElem_toArray, List.getElem_cons_zero, List.getElem_cons_succ, Act.put, List.setIfInBounds_toArray, List.set_cons_zero, List.set_cons_succ]
                              refine wpAnyH_ready (rs := [25]) (by kernel_rfl) (by simp) ?_
                              refine AllReadyH.cons rfl (fun K hK => ?_) AllReadyH.nil
                              go_simp
                              refine hK.out _ _ ?_ (fun hHeld => ?_)
                              · (try dsimp only); (first | exact ⟨x0, x1, x2, x3, x4, p0, p1, c2⟩ | exact ⟨y0, y1, y2, y3, y4, q0, q1, cc2⟩ | go_keep)
                              clear hK K
                              try simp only [List.getElem_toArray, List.getElem_cons_zero, List.getElem_cons_succ, Act.put, List.setIfInBounds_toArray, List.set_cons_zero, List.set_cons_succ]
                              refine wpAnyH_done (by kernel_rfl) ?_ _
                              (clear HBEG HHC HYC hs1 hwr hwr1; go_wp2; go_roundg (body.length - (d + 1)); (case measure => (have := HGD.out; omega)); (case rel => exact ⟨d + 1, _, by omega, rfl, by go_num, Lib.hid ⟨by rw [List.length_set]; exact HLD.out.1, HUL.out⟩, HFB2, HST9.out.pick [3, 4, 0, 1, 2, 5, 6, 7, 8, 9] 10 rfl rfl⟩))
                      · obtain rfl : d = body.length := by omega
                        have hfb := HFB.out
                        rw [List.drop_length] at hfb
                        have hw : Wd = Fc.folB E Fk h body Wi := hfb
                        rw [← HSF.out] at hw
                        have HW := Lib.hid hw
                        have HST := Lib.hid hst
                        clear hst hfb hw
                        go_wp2
                        go_roundg (l.length - (i + 1))
                        case measure => have := HGI.out; omega
                        case rel => exact ⟨i + 1, Wd, by omega, rfl, by go_num, HW, HLD, HST.out.drop⟩
                  · obtain rfl : l.length = i := by omega
                    have hw := HWI.out
                    rw [List.take_length] at hw
                    have HW := Lib.hid hw
                    have HST := Lib.hid hst
                    clear hst hw
                    go_wp2
                    go_roundg (Fc.room (2 ^ 64) Wk)
                    case measure => exact HME.out
                    case rel => exact ⟨vw2, Wk, Wi, rfl, Lib.hid ⟨(by obtain ⟨q, hq⟩ := HA.out.1; exact ⟨q + 1, by rw [Fc.iter_add, ← hq]; exact HW.out⟩), (fun e => by rw [← e]; rw [← HW.out, e]), .inr ⟨HW.out, HB.out.1, HB.out.2.1, rfl⟩⟩, Lib.hid ⟨HLB.out.1, HLB.out.2, by rw [HB.out.1]; exact Nat.le_refl _⟩, HST.out⟩
              · have heq := of_decide_eq_true HR'.out
                have hfw := HA.out.2.1 heq
                obtain ⟨q, hq⟩ := HA.out.1
                have HG : Hid (Fc.Good l N E Fk Wk R M) := Lib.hid ⟨⟨HE.out, HM.out, HLRR.out, HLF.out, ⟨⟨q, hq⟩, hfw⟩⟩, HEl.out, HFl.out, HB.out.1, HRL.out, HMl.out, HFb.out, HB.out.2.1⟩
                obtain ⟨y0, y1, y2, y3, y4⟩ := HST.out.at5 7 rfl
                have k0 := (HST.out.nth 7 rfl).celFree 0
                have k1 := (HST.out.nth 7 rfl).celFree 1
                have k2 := (HST.out.nth 7 rfl).celFree 2
                have k3 := (HST.out.nth 7 rfl).celFree 3
                have k4 := (HST.out.nth 7 rfl).celFree 4
                have hst10 := (((((HST.out.pick (ρ := [aCel (w.heap.size + 1) 68 #[.slice none 0 0, .slice none 0 0, .slice none 0 0, .slice none 0 0, .slice none 0 0], Fc.aB (.slice (some ⟨gE, 0, none⟩) N N) E, Fc.aU (.slice (some ⟨gF, 0, none⟩) N N) Fk, Fc.aU (.slice (some ⟨gW, 0, none⟩) N N) Wk, Fc.aB (.slice (some ⟨gR, 0, none⟩) N N) R, Fc.aB (.slice (some ⟨gM, 0, none⟩) N N) M]) [7, 2, 3, 1, 5, 4] 9 rfl rfl).setCel 0 (.slice (some ⟨gE, 0, none⟩) N N)).setCel 1 (.slice (some ⟨gF, 0, none⟩) N N)).setCel 2 (.slice (some ⟨gW, 0, none⟩) N N)).setCel 3 (.slice (some ⟨gR, 0, none⟩) N N)).setCel 4 (.slice (some ⟨gM, 0, none⟩) N N)
                clear heq hfw hq
                have HST10 := Lib.hid hst10
                clear hst10
                go_wp2
                generalize (((((wX.setCell ⟨w.heap.size + 1, 0, none⟩ (.slice (some ⟨gE, 0, none⟩) N N)).setCell ⟨w.heap.size + 1, 1, none⟩ (.slice (some ⟨gF, 0, none⟩) N N)).setCell ⟨w.heap.size + 1, 2, none⟩ (.slice (some ⟨gW, 0, none⟩) N N)).setCell ⟨w.heap.size + 1, 3, none⟩ (.slice (some ⟨gR, 0, none⟩) N N)).setCell ⟨w.heap.size + 1, 4, none⟩ (.slice (some ⟨gM, 0, none⟩) N N)) = W10 at *
                have hst10 := HST10.out
                obtain ⟨r0, r1, r2, r3, r4⟩ := hst10.at5 (v0 := .slice (some ⟨gE, 0, none⟩) N N) (v1 := .slice (some ⟨gF, 0, none⟩) N N) (v2 := .slice (some ⟨gW, 0, none⟩) N N) (v3 := .slice (some ⟨gR, 0, none⟩) N N) (v4 := .slice (some ⟨gM, 0, none⟩) N N) 0 rfl
                refine bodyPost_ret (v := .agg #[.slice (some ⟨gE, 0, none⟩) N N, .slice (some ⟨gF, 0, none⟩) N N, .slice (some ⟨gW, 0, none⟩) N N, .slice (some ⟨gR, 0, none⟩) N N, .slice (some ⟨gM, 0, none⟩) N N]) (by simp [results, Try.results27, go_sem, r0, r1, r2, r3, r4]) rfl ?_
                exact ⟨gE, gF, gW, gR, gM, E, Fk, Wk, R, M, rfl, HG, hst10.drop⟩
end Go.Proofs.Ytkhjncbjdldpbaa

/-
  A grammar and a table that come in.
-/
namespace Go.Proofs.Ytkhjncbjdldpbaa
set_option linter.unusedVariables false
open Go.ChangeShapes Go.WideShapes Go.ChangeAt Go.RowKit

def Enc.gram : Enc (Int × Int × List (Int × List (Int × Int))) := Enc.prod (Enc.int .i64) (Enc.prod (Enc.int .i64) Enc.prods)
theorem gram_cells {F : Nat → Prop} {w : World} {cs : Array Value} {g : Int × Int × List (Int × List (Int × Int))} (h : Enc.gram.R F w cs.toList g) :
    ∃ vp, cs = #[.int .i64 g.1, .int .i64 g.2.1, vp] ∧ Enc.prods.R F w [vp] g.2.2 ∧ (-9223372036854775808 ≤ g.1 ∧ g.1 ≤ 9223372036854775807) ∧ (-9223372036854775808 ≤ g.2.1 ∧ g.2.1 ≤ 9223372036854775807) := by
  obtain ⟨c1, c2, e1, ⟨rfl, h1⟩, c3, c4, e2, ⟨rfl, h2⟩, h3⟩ := h
  have h4 := h3
  obtain ⟨ao, b, off, cap, rfl, _⟩ := h4
  subst e2
  exact ⟨_, Array.toList_inj.1 e1, h3, wf64 h1, wf64 h2⟩
theorem opens_gram : Opens Try.prog 24 Enc.gram := by
  have hp : Opens Try.prog 22 Enc.prods := opens_prods (sb := 0) Try.underlying22 Try.underlying112 Try.underlying110 Try.underlying61 (by kernel_rfl) (by kernel_rfl) rfl rfl (by kernel_rfl) (by kernel_rfl) Try.underlying3 (by kernel_rfl) (by kernel_rfl) rfl rfl (by kernel_rfl) (by kernel_rfl) Try.underlying3 Try.underlying3
  show Opens _ _ (Enc.prod (Enc.int .i64) (Enc.prod (Enc.int .i64) Enc.prods))
  exact Opens.struct Try.underlying24 (by kernel_rfl) (OpensFrom.cons rfl rfl (by kernel_rfl) (Opens.int Try.underlying3) (OpensFrom.cons rfl rfl (by kernel_rfl) (Opens.int Try.underlying3) (OpensFrom.last rfl rfl (by kernel_rfl) hp)))
end Go.Proofs.Ytkhjncbjdldpbaa

/-
  The walk of the law ItemsCloses.
-/
namespace Go.Proofs.Ytkhjncbjdldpbaa
set_option linter.unusedVariables false
set_option linter.unusedSimpArgs false
open Go.ChangeShapes Go.WideShapes Go.ChangeAt Go.RowKit

namespace It
abbrev Enc.in3 : Enc I := Enc.prod (Enc.int .i64) (Enc.prod (Enc.int .i64) (Enc.int .i64))
theorem itm_of {F : Nat → Prop} {w : World} {v : Value} {L : List I} (h : (Enc.in3.sl 24).R F w [v] L) : (Enc.itm.sl 24).R F w [v] L := by
  obtain ⟨ao, b, off, cap, e, h1, h2, h3, h4, h5, h6⟩ := h
  refine ⟨ao, b, off, cap, e, h1, h2, h3, h4, h5, fun i hi => ?_⟩
  obtain ⟨cs, g1, g2, c1, c2, rfl, ⟨rfl, -⟩, c3, c4, rfl, ⟨rfl, -⟩, ⟨rfl, -⟩⟩ := h6 i hi
  exact ⟨_, g1, g2, rfl⟩
theorem opens_three {P : Program} {t : TypeId} {f0 f1 f2 : Field} (ht : P.underlying t = some (.struct #[f0, f1, f2])) (hc : P.cellsOf t = 3) (o0 : f0.offset = 0) (o1 : f1.offset = 1) (o2 : f2.offset = 2) (c0 : P.cellsOf f0.type = 1) (c1 : P.cellsOf f1.type = 1) (c2 : P.cellsOf f2.type = 1)
    (k0 : P.underlying f0.type = some (.int .i64)) (k1 : P.underlying f1.type = some (.int .i64)) (k2 : P.underlying f2.type = some (.int .i64)) : Opens P t Enc.in3 := by
  have h2 : OpensFrom P #[f0, f1, f2] 2 2 (Enc.int .i64) := OpensFrom.last (f := f2) rfl o2 c2 (Opens.int k2)
  have h1 : OpensFrom P #[f0, f1, f2] 1 1 (Enc.prod (Enc.int .i64) (Enc.int .i64)) := OpensFrom.cons (f := f1) rfl o1 c1 (Opens.int k1) h2
  have h0 : OpensFrom P #[f0, f1, f2] 0 0 Enc.in3 := OpensFrom.cons (f := f0) rfl o0 c0 (Opens.int k0) h1
  exact Opens.struct ht hc h0
theorem opens_itm : Opens Try.prog 72 Enc.in3 :=
  opens_three Try.underlying72 (by kernel_rfl) rfl rfl rfl (by kernel_rfl) (by kernel_rfl) (by kernel_rfl) Try.underlying3 Try.underlying3 Try.underlying3
theorem opens_items : Opens Try.prog 59 (Enc.in3.sl 24) := Opens.sl Try.underlying59 (by kernel_rfl) (by decide) (by kernel_rfl) opens_itm
theorem up {α : Type} {E : Enc α} {w W : World} {vs : List Value} {L : α} (h : E.R (fun b => b < w.heap.size) w vs L) (hW : Below w.heap.size w W) : E.R (fun b => b < W.heap.size) W vs L := Enc.mono _ h (fun b hb => Nat.lt_of_lt_of_le hb hW.size) (fun b hb => hW.block b hb)
end It

set_option maxRecDepth 100000 in
set_option maxHeartbeats 8000000 in
theorem itemsCloses_bad (t n s1 s2 : Int) (vp : Value) (l : List Fc.Pr) (L : List It.I) (aL : Option Addr) (cL : Nat) (w : World) (h : Enc.prods.R (fun b => b < w.heap.size) w [vp] l) (hL : (It.Enc.itm.sl 24).R (fun b => b < w.heap.size) w [.slice aL L.length cL] L) (he : It.chk t n l L ≠ 0) :
    Calls Try.prog 6 #[.agg #[.int .i64 t, .int .i64 n, vp], .slice aL L.length cL, .agg #[.int .i64 s1, .int .i64 s2]] w fun e w' => e = .returned (.bool true) ∧ Below w.heap.size w w' := by
  have HI := Lib.hid (fun W (hW : Below w.heap.size w W) => rItems_any t n vp l L aL cL W (It.up h hW) (It.up hL hW))
  have HC := Lib.hid (fun W (hW : Below w.heap.size w W) => itClosedTop_any t n vp l L aL cL W (It.up h hW) (It.up hL hW))
  have HS := Lib.hid (fun W (hW : Below w.heap.size w W) => itStepTop_any t n vp l L aL cL s1 s2 W (It.up h hW) (It.up hL hW))
  rw [if_pos he] at HS
  generalize It.chk t n l L = E at *
  have hE1 : (E != 0) = true := by rw [bne_iff_ne]; exact he
  have hE2 : (E == E) = true := by rw [beq_iff_eq]
  have HE := Lib.hid he
  have hst := ((St.init w).alloc #[.int .i64 t, .int .i64 n, vp] 24).alloc #[.int .i64 s1, .int .i64 s2] 61
  simp only [World.size_alloc] at hst
  have HST := Lib.hid hst
  clear he h hL hst
  go_enter Try.func6, Try.ntmps6
  go_wp2_with (fail)
  go_at_call 24
  refine (HI.out _ HST.out.bel).mono ?_
  rintro e w1 ⟨rfl, hb1⟩
  have HST1 := Lib.hid (HST.out.call hb1)
  obtain ⟨g0, g1, g2⟩ := HST1.out.at3 1 rfl
  clear hb1 HST
  go_wp2_with (fail)
  go_at_call 25
  refine (HC.out _ HST1.out.bel).mono ?_
  rintro e w2 hr
  obtain ⟨rfl, hb2⟩ := hr.1 HE.out
  have HST2 := Lib.hid (HST1.out.call hb2)
  clear hr hb2 HST1 g0 g1 g2
  obtain ⟨g0, g1, g2⟩ := HST2.out.at3 1 rfl
  have x0 := (HST2.out.nth 0 rfl).celAt (i := 0) (v := .int .i64 s1) rfl
  have x1 := (HST2.out.nth 0 rfl).celAt (i := 1) (v := .int .i64 s2) rfl
  go_wp2_with (fail)
  go_at_call 26
  refine (HS.out _ HST2.out.bel).mono ?_
  rintro e w3 hr
  obtain ⟨rfl, hb3⟩ := hr.1 HE.out
  have HST3 := Lib.hid (HST2.out.call hb3)
  clear hr hb3 HST2 g0 g1 g2 x0 x1
  go_wp2
  go_ret
  exact ⟨by simp, HST3.out.bel⟩

theorem It.chk_len {t n : Int} {l : List Fc.Pr} {L out : List It.I} {E : List Bool} {F : List Nat} (he : Gr.err t n l = 0) (hok : ∀ x ∈ L, It.okI t l x) (h1 : out.Pairwise (fun x y => It.lt x y = true)) (h2 : ∀ x, x ∈ out ↔ It.Rch (It.nexts t.toNat E F l) L x) : out.length ≤ 11439 := by
  have hz := Gr.err_zero he
  have hT : ((t.toNat : Nat) : Int) = t := by omega
  refine It.len_bound (t := t) (l := l) hz.2.1 hz.2.2.2.2.1 (fun p h0 h1 => (It.body_right he h0 h1).1) ?_ (fun y hy => It.rch_ok hT hok ((h2 y).1 hy))
  exact List.Pairwise.imp (fun {a b} hab e => by rw [e, It.lt_irr] at hab; cases hab) h1

set_option maxRecDepth 100000 in
set_option maxHeartbeats 8000000 in
theorem itemsCloses_no (t n s1 s2 : Int) (vp : Value) (l : List Fc.Pr) (L : List It.I) (aL : Option Addr) (cL : Nat) (w : World) (h : Enc.prods.R (fun b => b < w.heap.size) w [vp] l) (hL : (It.Enc.itm.sl 24).R (fun b => b < w.heap.size) w [.slice aL L.length cL] L) (he : It.chk t n l L = 0) (hr : Gr.right t n (s1, s2) = false) :
    Calls Try.prog 6 #[.agg #[.int .i64 t, .int .i64 n, vp], .slice aL L.length cL, .agg #[.int .i64 s1, .int .i64 s2]] w fun e w' => e = .returned (.bool true) ∧ Below w.heap.size w w' := by
  obtain ⟨hz, h4, hok⟩ := It.chk_zero he
  have HI := Lib.hid (fun W (hW : Below w.heap.size w W) => rItems_any t n vp l L aL cL W (It.up h hW) (It.up hL hW))
  have HC := Lib.hid (fun W (hW : Below w.heap.size w W) => itClosedTop_any t n vp l L aL cL W (It.up h hW) (It.up hL hW))
  have HS := Lib.hid (fun W (hW : Below w.heap.size w W) => itStepTop_any t n vp l L aL cL s1 s2 W (It.up h hW) (It.up hL hW))
  have HFA := Lib.hid (fun W (hW : Below w.heap.size w W) => fcRef_any t n vp l W (fun b => b < W.heap.size) (It.up h hW) hz)
  have HLW := Lib.hid (fun W (hW : Below w.heap.size w W) => It.up hL hW)
  have HPR := Lib.hid h; have HOK := Lib.hid hok; have HZ := Lib.hid hz
  rw [he, if_neg (by simp), hr] at HS
  rw [he] at HI HC
  rw [if_neg (by simp)] at HS
  obtain ⟨ap, bp, op_, cp, rfl, -, -, -⟩ := slProds h
  have HRS := Lib.hid (fun W => rRightSym_any t n s1 s2 ap l.length cp W)
  rw [hr] at HRS
  have hl4 : L.length ≤ 4000 := h4
  have hz2 := Gr.err_zero hz
  have hl40 : l.length ≤ 40 := hz2.2.2.2.2.1
  have ht30 : t ≤ 30 := hz2.2.1
  have ht0 : 0 ≤ t := hz2.1
  have hst := ((St.init w).alloc #[.int .i64 t, .int .i64 n, .slice ap l.length cp] 24).alloc #[.int .i64 s1, .int .i64 s2] 61
  simp only [World.size_alloc] at hst
  have HST := Lib.hid hst
  clear he h hL hst hz h4 hok hr hz2
  go_enter Try.func6, Try.ntmps6
  go_wp2_with (fail)
  go_at_call 24
  refine (HI.out _ HST.out.bel).mono ?_
  rintro e w1 ⟨rfl, hb1⟩
  have HST1 := Lib.hid (HST.out.call hb1)
  obtain ⟨g0, g1, g2⟩ := HST1.out.at3 1 rfl
  clear hb1 HST HI
  generalize hgs : w.heap.size + 1 = gs at HST1 ⊢
  generalize hgg : w.heap.size = gg at HST1 g0 g1 g2 ⊢
  go_wp2_with (fail)
  go_at_call 25
  refine (HC.out _ (hgg ▸ HST1.out.bel)).mono ?_
  rintro e w2 hr
  obtain ⟨a1, n1, c1, out1, rfl, q1, q2, hstA⟩ := hr.2 rfl
  have HST2 := Lib.hid (HST1.out.join hstA)
  have HQ1 := Lib.hid q1; have HQ2 := Lib.hid q2
  clear hr hstA HST1 g0 g1 g2 q1 q2 HC
  obtain ⟨g0, g1, g2⟩ := HST2.out.at3 2 rfl
  have x0 := (HST2.out.nth 1 rfl).celAt (i := 0) (v := .int .i64 s1) rfl
  have x1 := (HST2.out.nth 1 rfl).celAt (i := 1) (v := .int .i64 s2) rfl
  go_wp2_with (fail)
  go_at_call 26
  refine (HS.out _ (hgg ▸ HST2.out.bel)).mono ?_
  rintro e w3 hr
  obtain ⟨rfl, hb3⟩ := hr.1 (by decide)
  have HST3 := Lib.hid (HST2.out.call hb3)
  clear hr hb3 HST2 g0 g1 g2 x0 x1 HS
  obtain ⟨g0, g1, g2⟩ := HST3.out.at3 2 rfl
  go_wp2_with (fail)
  go_at_call 27
  refine (HFA.out _ (hgg ▸ HST3.out.bel)).mono ?_
  rintro e w4 ⟨gE, gF, gW, gR, gM, E, Fs, Wf, R, M, rfl, HGD, hst4⟩
  have hfx : It.Fx l n.toNat E Fs := ⟨(It.the_eq HGD.out).1, (It.the_eq HGD.out).2.1, (It.the_eq HGD.out).2.2, HGD.out.e, HGD.out.f⟩
  have hst5 := HST3.out.join hst4
  have HFX := Lib.hid hfx
  have HST5 := Lib.hid (hst5.alloc #[.slice (some ⟨gE, 0, none⟩) n.toNat n.toNat, .slice (some ⟨gF, 0, none⟩) n.toNat n.toNat, .slice (some ⟨gW, 0, none⟩) n.toNat n.toNat, .slice (some ⟨gR, 0, none⟩) n.toNat n.toNat, .slice (some ⟨gM, 0, none⟩) n.toNat n.toNat] 68)
  clear hst4 hst5 hfx HST3 g0 g1 g2 HFA HGD
  obtain ⟨g0, g1, g2⟩ := HST5.out.at3 8 rfl
  have f0 := (HST5.out.nth 0 rfl).celAt (i := 0) (v := .slice (some ⟨gE, 0, none⟩) n.toNat n.toNat) rfl
  have f1 := (HST5.out.nth 0 rfl).celAt (i := 1) (v := .slice (some ⟨gF, 0, none⟩) n.toNat n.toNat) rfl
  have f2 := (HST5.out.nth 0 rfl).celAt (i := 2) (v := .slice (some ⟨gW, 0, none⟩) n.toNat n.toNat) rfl
  have f3 := (HST5.out.nth 0 rfl).celAt (i := 3) (v := .slice (some ⟨gR, 0, none⟩) n.toNat n.toNat) rfl
  have f4 := (HST5.out.nth 0 rfl).celAt (i := 4) (v := .slice (some ⟨gM, 0, none⟩) n.toNat n.toNat) rfl
  have HB0 := Lib.hid (Below.refl w.heap.size w)
  go_wp2_with (fail)
  generalize w4.alloc _ = w5 at HST5 f0 f1 f2 f3 f4 g0 g1 g2 ⊢
  generalize w4.heap.size = gf at HST5 f0 f1 f2 f3 f4 ⊢
  go_at_call 29
  refine (rClosed_any w t n _ l HPR.out HZ.out gE n.toNat gF n.toNat _ _ _ E Fs HFX.out w w5 _ L aL cL HB0.out HOK.out (by omega) (fun W hW => HLW.out W (hW.bel)) (HST5.out.pick (ρ := Fc.aB (.slice (some ⟨gE, 0, none⟩) n.toNat n.toNat) E :: Fc.aU (.slice (some ⟨gF, 0, none⟩) n.toNat n.toNat) Fs :: aCel gf 68 #[.slice (some ⟨gE, 0, none⟩) n.toNat n.toNat, .slice (some ⟨gF, 0, none⟩) n.toNat n.toNat, .slice (some ⟨gW, 0, none⟩) n.toNat n.toNat, .slice (some ⟨gR, 0, none⟩) n.toNat n.toNat, .slice (some ⟨gM, 0, none⟩) n.toNat n.toNat] :: aOwn 72 3 (.slice a1 n1 c1) (out1.map It.itV) :: aCel gs 61 #[.int .i64 s1, .int .i64 s2] :: aCel gg 24 #[.int .i64 t, .int .i64 n, .slice ap l.length cp] :: []) [1, 2, 0, 6, 7, 8] 9 rfl rfl)).mono ?_
  rintro e w6 ⟨a3, n3, c3, out3, rfl, r1, r2, hst6⟩
  have heq : out1 = out3 := It.rise_one _ _ HQ1.out r1 (fun x => by rw [HQ2.out, r2])
  subst heq
  have HST6 := Lib.hid hst6
  have hln := It.chk_len HZ.out HOK.out HQ1.out HQ2.out
  have HEQ := Lib.hid (eqItms w6 (Own.rowN (f := It.itV) (size := 3) (fun _ => rfl) (0, 0, 0) (HST6.out.ok _ (List.mem_of_getElem? (i := 4) rfl)) (by omega)) (Own.rowN (f := It.itV) (size := 3) (fun _ => rfl) (0, 0, 0) (HST6.out.ok _ (List.mem_of_getElem? (i := 0) rfl)) (by omega)))
  rw [decide_eq_true rfl] at HEQ
  clear hst6 r1 r2 HST5 g0 g1 g2 f0 f1 f2 f3 f4 hln
  go_wp2_with (fail)
  go_at_call 28
  refine HEQ.out.mono ?_
  rintro e w7 ⟨rfl, hb7⟩
  have HST7 := Lib.hid (HST6.out.call hb7)
  clear hb7 HEQ HST6
  obtain ⟨g0, g1, g2⟩ := HST7.out.at3 6 rfl
  have x0 := (HST7.out.nth 5 rfl).celAt (i := 0) (v := .int .i64 s1) rfl
  have x1 := (HST7.out.nth 5 rfl).celAt (i := 1) (v := .int .i64 s2) rfl
  go_wp2_with (fail)
  go_at_call 30
  refine (HRS.out _).mono ?_
  rintro e w8 ⟨rfl, hb8⟩
  have HST8 := Lib.hid (HST7.out.call hb8)
  clear hb8 HRS HST7 g0 g1 g2 x0 x1
  go_wp2
  go_ret
  exact ⟨by simp, hgg ▸ HST8.out.bel⟩

set_option maxRecDepth 100000 in
set_option maxHeartbeats 8000000 in
theorem itemsCloses_yes (t n s1 s2 : Int) (vp : Value) (l : List Fc.Pr) (L : List It.I) (aL : Option Addr) (cL : Nat) (w : World) (h : Enc.prods.R (fun b => b < w.heap.size) w [vp] l) (hL : (It.Enc.itm.sl 24).R (fun b => b < w.heap.size) w [.slice aL L.length cL] L) (he : It.chk t n l L = 0) (hr : Gr.right t n (s1, s2) = true) :
    Calls Try.prog 6 #[.agg #[.int .i64 t, .int .i64 n, vp], .slice aL L.length cL, .agg #[.int .i64 s1, .int .i64 s2]] w fun e w' => e = .returned (.bool true) ∧ Below w.heap.size w w' := by
  obtain ⟨hz, h4, hok⟩ := It.chk_zero he
  have HI := Lib.hid (fun W (hW : Below w.heap.size w W) => rItems_any t n vp l L aL cL W (It.up h hW) (It.up hL hW))
  have HC := Lib.hid (fun W (hW : Below w.heap.size w W) => itClosedTop_any t n vp l L aL cL W (It.up h hW) (It.up hL hW))
  have HS := Lib.hid (fun W (hW : Below w.heap.size w W) => itStepTop_any t n vp l L aL cL s1 s2 W (It.up h hW) (It.up hL hW))
  have HFA := Lib.hid (fun W (hW : Below w.heap.size w W) => fcRef_any t n vp l W (fun b => b < W.heap.size) (It.up h hW) hz)
  have HLW := Lib.hid (fun W (hW : Below w.heap.size w W) => It.up hL hW)
  have HPR := Lib.hid h; have HOK := Lib.hid hok; have HZ := Lib.hid hz
  rw [he, if_neg (by simp), hr] at HS
  rw [he] at HI HC
  rw [if_pos rfl] at HS
  obtain ⟨ap, bp, op_, cp, rfl, -, -, -⟩ := slProds h
  have HRS := Lib.hid (fun W => rRightSym_any t n s1 s2 ap l.length cp W)
  rw [hr] at HRS
  have hl4 : L.length ≤ 4000 := h4
  have hz2 := Gr.err_zero hz
  have hl40 : l.length ≤ 40 := hz2.2.2.2.2.1
  have ht30 : t ≤ 30 := hz2.2.1
  have ht0 : 0 ≤ t := hz2.1
  have hst := ((St.init w).alloc #[.int .i64 t, .int .i64 n, .slice ap l.length cp] 24).alloc #[.int .i64 s1, .int .i64 s2] 61
  simp only [World.size_alloc] at hst
  have HST := Lib.hid hst
  clear he h hL hst hz h4 hok hr hz2
  go_enter Try.func6, Try.ntmps6
  go_wp2_with (fail)
  go_at_call 24
  refine (HI.out _ HST.out.bel).mono ?_
  rintro e w1 ⟨rfl, hb1⟩
  have HST1 := Lib.hid (HST.out.call hb1)
  obtain ⟨g0, g1, g2⟩ := HST1.out.at3 1 rfl
  clear hb1 HST HI
  generalize hgs : w.heap.size + 1 = gs at HST1 ⊢
  generalize hgg : w.heap.size = gg at HST1 g0 g1 g2 ⊢
  go_wp2_with (fail)
  go_at_call 25
  refine (HC.out _ (hgg ▸ HST1.out.bel)).mono ?_
  rintro e w2 hr
  obtain ⟨a1, n1, c1, out1, rfl, q1, q2, hstA⟩ := hr.2 rfl
  have HST2 := Lib.hid (HST1.out.join hstA)
  have HQ1 := Lib.hid q1; have HQ2 := Lib.hid q2
  clear hr hstA HST1 g0 g1 g2 q1 q2 HC
  obtain ⟨g0, g1, g2⟩ := HST2.out.at3 2 rfl
  have x0 := (HST2.out.nth 1 rfl).celAt (i := 0) (v := .int .i64 s1) rfl
  have x1 := (HST2.out.nth 1 rfl).celAt (i := 1) (v := .int .i64 s2) rfl
  go_wp2_with (fail)
  go_at_call 26
  refine (HS.out _ (hgg ▸ HST2.out.bel)).mono ?_
  rintro e w3 hr
  obtain ⟨a2, n2, c2, out2, rfl, p1, p2, hstB⟩ := hr.2 rfl
  have HST3 := Lib.hid (HST2.out.join hstB)
  have HP1 := Lib.hid p1; have HP2 := Lib.hid p2
  clear hr hstB HST2 g0 g1 g2 x0 x1 p1 p2 HS
  obtain ⟨g0, g1, g2⟩ := HST3.out.at3 3 rfl
  go_wp2_with (fail)
  go_at_call 27
  refine (HFA.out _ (hgg ▸ HST3.out.bel)).mono ?_
  rintro e w4 ⟨gE, gF, gW, gR, gM, E, Fs, Wf, R, M, rfl, HGD, hst4⟩
  have hfx : It.Fx l n.toNat E Fs := ⟨(It.the_eq HGD.out).1, (It.the_eq HGD.out).2.1, (It.the_eq HGD.out).2.2, HGD.out.e, HGD.out.f⟩
  have hst5 := HST3.out.join hst4
  have HFX := Lib.hid hfx
  have HST5 := Lib.hid (hst5.alloc #[.slice (some ⟨gE, 0, none⟩) n.toNat n.toNat, .slice (some ⟨gF, 0, none⟩) n.toNat n.toNat, .slice (some ⟨gW, 0, none⟩) n.toNat n.toNat, .slice (some ⟨gR, 0, none⟩) n.toNat n.toNat, .slice (some ⟨gM, 0, none⟩) n.toNat n.toNat] 68)
  clear hst4 hst5 hfx HST3 g0 g1 g2 HFA HGD
  obtain ⟨g0, g1, g2⟩ := HST5.out.at3 9 rfl
  have f0 := (HST5.out.nth 0 rfl).celAt (i := 0) (v := .slice (some ⟨gE, 0, none⟩) n.toNat n.toNat) rfl
  have f1 := (HST5.out.nth 0 rfl).celAt (i := 1) (v := .slice (some ⟨gF, 0, none⟩) n.toNat n.toNat) rfl
  have f2 := (HST5.out.nth 0 rfl).celAt (i := 2) (v := .slice (some ⟨gW, 0, none⟩) n.toNat n.toNat) rfl
  have f3 := (HST5.out.nth 0 rfl).celAt (i := 3) (v := .slice (some ⟨gR, 0, none⟩) n.toNat n.toNat) rfl
  have f4 := (HST5.out.nth 0 rfl).celAt (i := 4) (v := .slice (some ⟨gM, 0, none⟩) n.toNat n.toNat) rfl
  have HB0 := Lib.hid (Below.refl w.heap.size w)
  go_wp2_with (fail)
  generalize w4.alloc _ = w5 at HST5 f0 f1 f2 f3 f4 g0 g1 g2 ⊢
  generalize w4.heap.size = gf at HST5 f0 f1 f2 f3 f4 ⊢
  go_at_call 29
  refine (rClosed_any w t n _ l HPR.out HZ.out gE n.toNat gF n.toNat _ _ _ E Fs HFX.out w w5 _ L aL cL HB0.out HOK.out (by omega) (fun W hW => HLW.out W (hW.bel)) (HST5.out.pick (ρ := Fc.aB (.slice (some ⟨gE, 0, none⟩) n.toNat n.toNat) E :: Fc.aU (.slice (some ⟨gF, 0, none⟩) n.toNat n.toNat) Fs :: aCel gf 68 #[.slice (some ⟨gE, 0, none⟩) n.toNat n.toNat, .slice (some ⟨gF, 0, none⟩) n.toNat n.toNat, .slice (some ⟨gW, 0, none⟩) n.toNat n.toNat, .slice (some ⟨gR, 0, none⟩) n.toNat n.toNat, .slice (some ⟨gM, 0, none⟩) n.toNat n.toNat] :: aOwn 72 3 (.slice a2 n2 c2) (out2.map It.itV) :: aOwn 72 3 (.slice a1 n1 c1) (out1.map It.itV) :: aCel gs 61 #[.int .i64 s1, .int .i64 s2] :: aCel gg 24 #[.int .i64 t, .int .i64 n, .slice ap l.length cp] :: []) [1, 2, 0, 6, 7, 8, 9] 10 rfl rfl)).mono ?_
  rintro e w6 ⟨a3, n3, c3, out3, rfl, r1, r2, hst6⟩
  have heq : out1 = out3 := It.rise_one _ _ HQ1.out r1 (fun x => by rw [HQ2.out, r2])
  subst heq
  have HST6 := Lib.hid hst6
  have hln := It.chk_len HZ.out HOK.out HQ1.out HQ2.out
  have HEQ := Lib.hid (eqItms w6 (Own.rowN (f := It.itV) (size := 3) (fun _ => rfl) (0, 0, 0) (HST6.out.ok _ (List.mem_of_getElem? (i := 5) rfl)) (by omega)) (Own.rowN (f := It.itV) (size := 3) (fun _ => rfl) (0, 0, 0) (HST6.out.ok _ (List.mem_of_getElem? (i := 0) rfl)) (by omega)))
  rw [decide_eq_true rfl] at HEQ
  clear hst6 r1 r2 HST5 g0 g1 g2 f0 f1 f2 f3 f4 hln
  go_wp2_with (fail)
  go_at_call 28
  refine HEQ.out.mono ?_
  rintro e w7 ⟨rfl, hb7⟩
  have HST7 := Lib.hid (HST6.out.call hb7)
  clear hb7 HEQ HST6
  obtain ⟨g0, g1, g2⟩ := HST7.out.at3 7 rfl
  have x0 := (HST7.out.nth 6 rfl).celAt (i := 0) (v := .int .i64 s1) rfl
  have x1 := (HST7.out.nth 6 rfl).celAt (i := 1) (v := .int .i64 s2) rfl
  go_wp2_with (fail)
  go_at_call 30
  refine (HRS.out _).mono ?_
  rintro e w8 ⟨rfl, hb8⟩
  have HST8 := Lib.hid (HST7.out.call hb8)
  clear hb8 HRS HST7 g0 g1 g2 x0 x1
  obtain ⟨g0, g1, g2⟩ := HST8.out.at3 7 rfl
  have x0 := (HST8.out.nth 6 rfl).celAt (i := 0) (v := .int .i64 s1) rfl
  have x1 := (HST8.out.nth 6 rfl).celAt (i := 1) (v := .int .i64 s2) rfl
  have f0 := (HST8.out.nth 3 rfl).celAt (i := 0) (v := .slice (some ⟨gE, 0, none⟩) n.toNat n.toNat) rfl
  have f1 := (HST8.out.nth 3 rfl).celAt (i := 1) (v := .slice (some ⟨gF, 0, none⟩) n.toNat n.toNat) rfl
  have f2 := (HST8.out.nth 3 rfl).celAt (i := 2) (v := .slice (some ⟨gW, 0, none⟩) n.toNat n.toNat) rfl
  have f3 := (HST8.out.nth 3 rfl).celAt (i := 3) (v := .slice (some ⟨gR, 0, none⟩) n.toNat n.toNat) rfl
  have f4 := (HST8.out.nth 3 rfl).celAt (i := 4) (v := .slice (some ⟨gM, 0, none⟩) n.toNat n.toNat) rfl
  go_wp2_with (fail)
  go_at_call 31
  refine (rStepped_any w t n _ l HPR.out HZ.out gE n.toNat gF n.toNat _ _ _ E Fs HFX.out w w8 (aCel gf 68 #[.slice (some ⟨gE, 0, none⟩) n.toNat n.toNat, .slice (some ⟨gF, 0, none⟩) n.toNat n.toNat, .slice (some ⟨gW, 0, none⟩) n.toNat n.toNat, .slice (some ⟨gR, 0, none⟩) n.toNat n.toNat, .slice (some ⟨gM, 0, none⟩) n.toNat n.toNat] :: aOwn 72 3 (.slice a2 n2 c2) (out2.map It.itV) :: []) L aL cL (s1, s2) HB0.out HOK.out (by omega) (fun W hW => HLW.out W (hW.bel)) (HST8.out.pick [1, 2, 3, 4] 8 rfl rfl)).mono ?_
  rintro e w9 ⟨a4, n4, c4, out4, rfl, r1, r2, hst9⟩
  have heq : out2 = out4 := It.rise_one _ _ HP1.out r1 (fun x => by rw [HP2.out, r2])
  subst heq
  have HST9 := Lib.hid hst9
  have hln := It.chk_len HZ.out (It.moved_ok (x := (s1, s2)) HOK.out) HP1.out HP2.out
  have HEQ := Lib.hid (eqItms w9 (Own.rowN (f := It.itV) (size := 3) (fun _ => rfl) (0, 0, 0) (HST9.out.ok _ (List.mem_of_getElem? (i := 4) rfl)) (by omega)) (Own.rowN (f := It.itV) (size := 3) (fun _ => rfl) (0, 0, 0) (HST9.out.ok _ (List.mem_of_getElem? (i := 0) rfl)) (by omega)))
  rw [decide_eq_true rfl] at HEQ
  clear hst9 r1 r2 HST8 g0 g1 g2 f0 f1 f2 f3 f4 x0 x1 hln
  go_wp2_with (fail)
  go_at_call 28
  refine HEQ.out.mono ?_
  rintro e wA ⟨rfl, hbA⟩
  have HSTA := Lib.hid (HST9.out.call hbA)
  clear hbA HEQ HST9
  go_wp2
  go_ret
  exact ⟨by simp, hgg ▸ HSTA.out.bel⟩

theorem itemsCloses_walk (cs cx : Array Value) (g : Int × Int × List (Int × List (Int × Int))) (ao : Option Addr) (m c : Nat) (L : List It.I) (x : Int × Int) (w : World) (h : Rd Enc.gram (fun b => b < w.heap.size) w (.agg cs) g) (hcs : (Value.agg cs).cells.toList = cs.toList) (hb : Rd (It.Enc.in3.sl 24) (fun b => b < w.heap.size) w (.slice ao m c) L) (hx : Rd Enc.two (fun b => b < w.heap.size) w (.agg cx) x) (hcx : (Value.agg cx).cells.toList = cx.toList) :
    Calls Try.prog 6 #[.agg cs, .slice ao m c, .agg cx] w fun e w' => e = .returned (.bool true) ∧ Below w.heap.size w w' := by
  unfold Rd at h hx
  rw [hcs] at h
  rw [hcx] at hx
  obtain ⟨vp, rfl, hp, _, _⟩ := gram_cells h
  have hc := (two_cells hx).1
  obtain ⟨s1, s2⟩ := x
  have hcx2 : cx = #[.int .i64 s1, .int .i64 s2] := by
    have := congrArg List.toArray hc
    rw [Array.toArray_toList] at this
    exact this
  subst hcx2
  have hL := It.itm_of (v := .slice ao m c) hb
  have hm : m = L.length := by
    obtain ⟨_, _, _, _, e, -⟩ := hL
    simp only [List.cons.injEq, Value.slice.injEq, and_true] at e
    exact e.2.1
  subst hm
  by_cases he : It.chk g.1 g.2.1 g.2.2 L = 0
  · cases hr : Gr.right g.1 g.2.1 (s1, s2)
    · exact itemsCloses_no _ _ _ _ _ _ _ _ _ _ hp hL he hr
    · exact itemsCloses_yes _ _ _ _ _ _ _ _ _ _ hp hL he hr
  · exact itemsCloses_bad _ _ _ _ _ _ _ _ _ _ hp hL he
end Go.Proofs.Ytkhjncbjdldpbaa
