/-
  The work of one who climbs: down of package climb.
-/
import Derived.Test.YtldapomcjfkeeaaClOp
namespace Go.Proofs.Ytldapomcjfkeeaa
set_option linter.unusedVariables false
open Go.ChangeShapes Go.WideShapes Go.ChangeAt Go.RowKit

namespace Cl
theorem clo_some (a : List T) : ∀ (o a' : _) (o' : List (Int × Int)), clo a o = some (a', o') → (∀ x ∈ a', x ∈ a) ∧ a'.length ≤ a.length ∧ o.length ≤ o'.length ∧ (o.length ≤ 2000 → o'.length ≤ 2000) ∧ ∀ x r, a' = x :: r → x.1 = false := by
  induction a with
  | nil => intro o a' o' h; cases h; exact ⟨fun _ h => h, Nat.le_refl _, Nat.le_refl _, id, fun x r h => by cases h⟩
  | cons x r ih =>
    intro o a' o' h
    rw [clo] at h
    split at h
    · split at h
      · cases h
      · rename_i h1 h2
        obtain ⟨i1, i2, i3, i4, i5⟩ := ih _ _ _ h
        rw [List.length_append, List.length_singleton] at i3 i4
        exact ⟨fun y hy => .tail _ (i1 y hy), by rw [List.length_cons]; omega, by omega, fun _ => i4 (by omega), i5⟩
    · rename_i h1
      cases h; exact ⟨fun _ h => h, Nat.le_refl _, Nat.le_refl _, id, fun y q h => by cases h; simpa using h1⟩
section
variable {ps : List (Int × List (Int × Int))} {rows : List (List Int)} {c f : Nat} {a r : List T} {x : T} {o o' : List (Int × Int)} {q : Int}
theorem dn_many (h : clo a o = none) : dn ps rows c (f + 1) a o = (14, [], []) := by rw [dn, h]
theorem dn_nil (h : clo a o = some ([], o')) : dn ps rows c (f + 1) a o = (0, [], o') := by rw [dn, h]
theorem dn_term (h : clo a o = some (x :: r, o')) (hk : x.2.2.1 = 1) : dn ps rows c (f + 1) a o = (0, x :: r, o') := by rw [dn, h]; simp only [hk, if_true]
theorem dn_bad (h : clo a o = some (x :: r, o')) (hk : x.2.2.1 ≠ 1) (hq : (rows.getD x.2.2.2.toNat []).getD c 0 = q) (h2 : q < 0) : dn ps rows c (f + 1) a o = (13, [], []) := by rw [dn, h]; simp only [hk, if_false, hq, h2, if_true]
theorem dn_deep (h : clo a o = some (x :: r, o')) (hk : x.2.2.1 ≠ 1) (hq : (rows.getD x.2.2.2.toNat []).getD c 0 = q) (h2 : ¬ q < 0) (h3 : ¬ (o'.length < 2000 ∧ (put ps q.toNat r).length ≤ 60)) : dn ps rows c (f + 1) a o = (14, [], []) := by
  have h4 : 2000 ≤ o'.length ∨ 60 < (put ps q.toNat r).length := by omega
  rw [dn, h]; simp only [hk, if_false, hq, h2, h4, if_true]
theorem dn_step (h : clo a o = some (x :: r, o')) (hk : x.2.2.1 ≠ 1) (hq : (rows.getD x.2.2.2.toNat []).getD c 0 = q) (h2 : ¬ q < 0) (h3 : o'.length < 2000 ∧ (put ps q.toNat r).length ≤ 60) : dn ps rows c (f + 1) a o = dn ps rows c f (put ps q.toNat r) (o' ++ [(1, q)]) := by
  have h4 : ¬ (2000 ≤ o'.length ∨ 60 < (put ps q.toNat r).length) := by omega
  rw [dn, h]; simp only [hk, if_false, hq, h2, h4]
end
/-- A right grammar's bodies may be ahead. -/
theorem put_good {t n : Int} {l : List (Int × List (Int × Int))} {p : Nat} {r : List T} (hb : ∀ y ∈ (l.getD p (0, [])).2, Gr.right t n y = true) (hp : p < l.length) (hr : ∀ x ∈ r, good t n l.length x = true) : ∀ x ∈ put l p r, good t n l.length x = true := by
  intro x hx
  rcases List.mem_append.1 hx with h | h
  · obtain ⟨y, hy, rfl⟩ := List.mem_map.1 h
    rw [good_sym, hb y hy]; simp
  · rcases List.mem_cons.1 h with rfl | h
    · rw [good_close]; exact decide_eq_true ⟨by omega, by omega, rfl, rfl⟩
    · exact hr x h
theorem good_open {t n : Int} {np : Nat} {x : T} (h : good t n np x = true) (hc : x.1 = false) : (x.2.2.1 = 1 ∧ 0 ≤ x.2.2.2 ∧ x.2.2.2 < t) ∨ (x.2.2.1 = 2 ∧ 0 ≤ x.2.2.2 ∧ x.2.2.2 < n) := by
  obtain ⟨a, m, k, s⟩ := x
  simp only at hc
  subst hc
  rw [good_sym, Bool.and_eq_true] at h
  exact Gr.right_iff.1 h.2
def acts (W : Nat) (wr : World) : Nat := match wr.cell? ⟨W, 5, none⟩ with | some (.int _ n) => n.toNat | _ => 0
theorem acts_of {W : Nat} {wr : World} {n : Nat} (h : wr.cell? ⟨W, 5, none⟩ = some (.int .i64 n)) : acts W wr = n := by unfold acts; rw [h]; simp
theorem Wk.acts {w0 w : World} {W : Nat} {t n : Int} {vp : Value} {td : List T} {out : List (Int × Int)} {μ : List Asrt} (h : Wk w0 w W t n vp td out μ) : Cl.acts W w = out.length := by
  obtain ⟨vt, vo, hst⟩ := h
  exact Cl.acts_of (hst.celAt (i := 5) rfl)
attribute [irreducible] acts
def DnRet (X : Int × List T × List (Int × Int)) (w0 : World) (W : Nat) (t n : Int) (np : Nat) (vp : Value) (μ : List Asrt) (e : Ending) (w' : World) : Prop :=
  e = .returned (.int .i64 X.1) ∧ ∃ td' out', Wk w0 w' W t n vp td' out' μ ∧ (X.1 = 0 → td' = X.2.1.reverse ∧ out' = X.2.2 ∧ td'.length ≤ 60 ∧ out'.length ≤ 2000 ∧ ∀ x ∈ td', good t n np x = true)
def DnRel (ps : List (Int × List (Int × Int))) (rows : List (List Int)) (c : Nat) (X : Int × List T × List (Int × Int)) (w0 : World) (W : Nat) (t n : Int) (vp : Value) (μ : List Asrt) (wr : World) : Prop :=
  ∃ f td out, Wk w0 wr W t n vp td out μ ∧ td.length ≤ 60 ∧ out.length ≤ 2000 ∧ 2001 ≤ f + out.length ∧ Hid (∀ x ∈ td, good t n ps.length x = true) ∧ Hid (dn ps rows c f td.reverse out = X)
theorem rw_zero {t n : Int} {l : List (Int × List (Int × Int))} {rows : List (List Int)} (h : Rw.all t n l rows = 0) : Gr.err t n l = 0 ∧ (rows.length : Int) = n ∧ Rw.Good t l rows := by
  by_cases h1 : Gr.err t n l = 0
  · rw [Rw.all_go h1] at h
    by_cases h2 : (rows.length : Int) = n
    · by_cases h3 : Rw.Good t l rows
      · exact ⟨h1, h2, h3⟩
      · rw [Rw.err_bad h3] at h; omega
    · rw [Rw.err_len h2] at h; omega
  · rw [Rw.all_ne h1] at h; exact absurd h h1
end Cl

set_option maxRecDepth 100000 in
set_option maxHeartbeats 8000000 in
theorem clDown_any (w0 : World) (W : Nat) (t n : Int) (vp vr : Value) (l : List (Int × List (Int × Int))) (rows : List (List Int)) (c : Nat) (td : List Cl.T) (out : List (Int × Int)) (μ : List Asrt) (w : World) (F : Nat → Prop) (hp : Enc.prods.R F w0 [vp] l)
    (hr : (((Enc.int .i64).sl 8).sl 24).R F w0 [vr] rows) (he : Rw.all t n l rows = 0) (hc : (c : Int) ≤ t) (h : Cl.Wk w0 w W t n vp td out μ) (hl : td.length ≤ 60) (ho : out.length = 0) (hg : ∀ x ∈ td, Cl.good t n l.length x = true) :
    Calls Try.prog 130 #[.pointer (some ⟨W, 0, none⟩), vr, .int .i64 c] w (Cl.DnRet (Cl.dn l rows c 2001 td.reverse out) w0 W t n l.length vp μ) := by
  obtain ⟨hz1, hz2, hz3⟩ := Cl.rw_zero he
  obtain ⟨hz4, hz5, hz6, hz7, hl40, hz8⟩ := Gr.err_zero hz1
  have HPR := Lib.hid (fun (p : Nat) (hp : p < l.length) => hz8 (l.getD p (0, [])) (by simp [List.getD, List.getElem?_eq_getElem hp]))
  have HRW := Lib.hid hz3
  have HP := Lib.hid hp
  obtain ⟨aor, br, or_, cr, rfl, -, r3, r4⟩ := slSl hr
  have R3 := Lib.hid r3; have R4 := Lib.hid r4
  generalize hX : Cl.dn l rows c 2001 td.reverse out = X
  have HX := Lib.hid hX
  have HGD := Lib.hid hg
  clear hX hp hr he hz1 hz3 hz8 r3 r4 hg
  go_enter Try.func130, Try.ntmps130
  go_wp2
  go_loopw [6] (fun _ wr => Cl.DnRel l rows c X w0 W t n vp μ wr) (fun _ wr => 2001 - Cl.acts W wr)
  case atStart => exact ⟨2001, td, out, h, hl, by omega, by omega, HGD, HX⟩
  case round =>
    clear h hl ho HX HGD td out
    obtain ⟨f, td, out, h, hl, ho, hf, HGD, HX⟩ := hrel
    obtain ⟨f, rfl⟩ : ∃ g, f = g + 1 := ⟨f - 1, by omega⟩
    have HAC := Lib.hid h.acts
    have hcon := clCloses_any w0 W t n vp td out μ wr h (by omega) ho
    clear h
    obtain ⟨Y, hY⟩ : ∃ Y, Cl.clo td.reverse out = Y := ⟨_, rfl⟩
    rw [hY] at hcon
    have HC := Lib.hid hcon
    have HY := Lib.hid hY
    clear hcon hY
    rcases Y with _ | ⟨r, o2⟩
    · have hx := HX.out
      rw [Cl.dn_many HY.out] at hx
      subst hx
      clear HX
      go_wp2_with (fail)
      go_at_call 133
      refine HC.out.mono ?_
      rintro e w1 ⟨he, td2, out2, H1, -⟩
      replace he : e = .returned (.bool false) := he
      subst he
      go_wp2
      go_ret
      exact ⟨rfl, td2, out2, H1, fun h => by cases h⟩
    · obtain ⟨s1, s2, s3, s4, s5⟩ := Cl.clo_some _ _ _ _ HY.out
      have HS5 := Lib.hid s5
      have HS1 : Hid (∀ x ∈ r, Cl.good t n l.length x = true) := Lib.hid (fun x hx => HGD.out x (by simpa using s1 x hx))
      replace s4 := s4 ho
      rw [List.length_reverse] at s2
      clear s1 s5
      go_wp2_with (fail)
      go_at_call 133
      refine HC.out.mono ?_
      rintro e w1 ⟨he, td2, out2, H1, hx⟩
      replace he : e = .returned (.bool true) := he
      subst he
      obtain ⟨rfl, rfl⟩ := hx _ rfl
      clear hx
      rcases r with _ | ⟨x, r⟩
      · have hx := HX.out
        rw [Cl.dn_nil HY.out] at hx
        subst hx
        clear HX
        have H2 := Lib.hid H1
        obtain ⟨vt, vo, hst⟩ := H1
        rcases hst.get2.own.shape with ⟨rfl, _⟩ | ⟨g, cap, rfl, _, _⟩
        all_goals
          have x3 := hst.celAt (i := 3) rfl
          clear hst
          go_wp2
          go_region
          go_wp2
          go_ret
          exact ⟨rfl, _, _, H2.out.drew, fun _ => ⟨rfl, rfl, by simp, s4, by simp⟩⟩
      · obtain ⟨ys, rfl⟩ : ∃ ys : List Cl.T, r = ys.reverse := ⟨r.reverse, by simp⟩
        rw [List.reverse_cons, List.reverse_reverse] at H1
        rw [List.length_cons, List.length_reverse] at s2
        have hx1 := HS5.out x _ rfl
        rcases Cl.good_open (HS1.out x (.head _)) hx1 with ⟨hk, hk0, hk1⟩ | ⟨hk, hk0, hk1⟩
        · have hx := HX.out
          rw [Cl.dn_term HY.out hk] at hx
          subst hx
          clear HX
          have H2 := Lib.hid H1
          obtain ⟨vt, vo, hst⟩ := H1
          rcases hst.get2.own.shape with ⟨_, he⟩ | ⟨g, cap, rfl, hg1, hg2⟩
          · simp at he
          rw [List.length_map, List.length_append, List.length_singleton] at hst
          have x3 := hst.celAt (i := 3) rfl
          obtain ⟨-, -, c2, -⟩ := hst.get2.cellTodo ys.length (by simp)
          rw [Cl.snoc_get, hk] at c2
          have hpos : (((ys.length : Int) + 1) == 0) = false := by rw [beq_eq_false_iff_ne]; omega
          have hwr : IntKind.i64.wrap (ys.length : Int) = (ys.length : Int) := IntWalk.i64_in _ (by omega)
          have h0 : (0 : Int) ≤ (ys.length : Int) := by omega
          clear hst hg1 hg2 hk hk0 hk1 hx1
          go_wp2
          go_region
          go_wp2
          go_ret
          exact ⟨rfl, _, _, H2.out.drew, fun _ => ⟨by simp, rfl, by simp; omega, s4, fun y hy => HS1.out y (by simp at hy ⊢; exact hy.symm)⟩⟩
        · have hkn : x.2.2.1 ≠ 1 := by omega
          have hkb : (x.2.2.1 == 1) = false := by rw [beq_eq_false_iff_ne]; exact hkn
          obtain ⟨s, hs⟩ : ∃ s : Nat, x.2.2.2 = s := Int.eq_ofNat_of_zero_le hk0
          have hsl : s < rows.length := by omega
          obtain ⟨rfl, hbr, -⟩ := R3.out (by omega)
          obtain ⟨ai, ci, q2, q3⟩ := R4.out s hsl
          obtain ⟨hrow, hgood⟩ := HRW.out s hsl
          obtain ⟨_, bs, os, _, hv, -, q4, q5⟩ := Enc.sl1 (En := Enc.int .i64) (Value.int .i64) (fun _ _ _ h => h.1) rfl 0 q3
          simp only [Value.slice.injEq, true_and] at hv
          obtain ⟨rfl, rfl⟩ := hv
          have hcl : c < (rows.getD s []).length := by omega
          obtain ⟨rfl, hbs, -⟩ := q4 (by omega)
          have q6 := (q5 c hcl).1
          obtain ⟨g1, g2, -⟩ := hgood c hcl
          obtain ⟨q, hq⟩ : ∃ q, (rows.getD s []).getD c 0 = q := ⟨_, rfl⟩
          rw [hq] at q6 g1 g2
          have HQ : Hid ((rows.getD x.2.2.2.toNat []).getD c 0 = q) := Lib.hid (by rw [hs, Int.toNat_natCast]; exact hq)
          generalize (rows.getD s []).length = ln at *
          have H2 := Lib.hid H1
          obtain ⟨vt, vo, hst⟩ := H1
          rcases hst.get2.own.shape with ⟨_, he⟩ | ⟨g, cap, rfl, hga, hgb⟩
          · simp at he
          rw [List.length_map, List.length_append, List.length_singleton] at hst
          have x3 := hst.celAt (i := 3) rfl
          obtain ⟨-, -, c2, c3⟩ := hst.get2.cellTodo ys.length (by simp)
          rw [Cl.snoc_get] at c2 c3
          rw [hs] at c3
          have q2 := bkeep hst.bel q2
          have q6 := bkeep hst.bel q6
          have hpos : (((ys.length : Int) + 1) == 0) = false := by rw [beq_eq_false_iff_ne]; omega
          have hwr : IntKind.i64.wrap (ys.length : Int) = (ys.length : Int) := IntWalk.i64_in _ (by omega)
          have h0 : (0 : Int) ≤ (ys.length : Int) := by omega
          have HNT := Lib.hid hkn
          have hsl2 : (s : Int) < rows.length := by omega
          have hcl2 : (c : Int) < ln := by omega
          have h0s : (0 : Int) ≤ (s : Int) := by omega
          have h0c : (0 : Int) ≤ (c : Int) := by omega
          clear hst hga hgb hk hk0 hk1 hkn hs q3 q4 q5 hrow hgood hcl hq hbr hbs hx1 hsl hz2 hz4 hz5 hz6 hz7
          go_wp2
          go_region
          have H3 := Lib.hid H2.out.drew
          clear H2
          go_wp2
          have x3' : w1.drew.cell? ⟨W, 3, none⟩ = _ := x3
          have c3' : w1.drew.cell? ⟨g, ys.length * 4 + 3, none⟩ = _ := c3
          have q2' : w1.drew.cell? ⟨br, or_ + s, none⟩ = _ := q2
          have q6' : w1.drew.cell? ⟨bs, os + c, none⟩ = _ := q6
          clear x3 c2 c3 q2 q6
          generalize w1.drew = W2 at *
          go_region
          have H4 := Lib.hid H3.out.drew
          clear H3 x3' c3' q2' q6' hpos hwr h0 hsl2 hcl2 h0s h0c hkb
          generalize W2.drew = W3 at *
          by_cases hq0 : q < 0
          · have hx := HX.out
            rw [Cl.dn_bad HY.out HNT.out HQ.out hq0] at hx
            subst hx
            clear HX
            go_wp2
            go_ret
            exact ⟨rfl, _, _, H4.out, fun h => by cases h⟩
          · obtain ⟨p, rfl⟩ := Int.eq_ofNat_of_zero_le (by omega : 0 ≤ q)
            have hpl : p < l.length := by omega
            obtain ⟨hb8, -, -, hbg⟩ := HPR.out p hpl
            have hcon := clOpen_any w0 W t n vp l ys x out2 μ p W3 F HP.out hl40 hpl hb8 H4.out (by omega) s4
            have HNP : Hid (∀ y ∈ Cl.put l p ys.reverse, Cl.good t n l.length y = true) := Lib.hid (Cl.put_good hbg hpl (fun y hy => HS1.out y (.tail _ hy)))
            have HQ0 := Lib.hid hq0
            have hpq : (p : Int).toNat = p := Int.toNat_natCast p
            by_cases hok : out2.length < 2000 ∧ (Cl.put l p ys.reverse).length ≤ 60
            · rw [decide_eq_true hok] at hcon
              have hx := HX.out
              rw [Cl.dn_step HY.out HNT.out HQ.out HQ0.out (by rw [hpq]; exact hok), hpq] at hx
              have HX2 := Lib.hid hx
              generalize Cl.put l p ys.reverse = td2 at *
              have HCO := Lib.hid hcon
              have h20 := hok.1
              have h60 := hok.2
              clear hx HX hcon hbg hb8 hpq hok hq0
              go_wp2_with (fail)
              go_at_call 160
              refine HCO.out.mono ?_
              rintro e w2 ⟨rfl, H5⟩
              have HAC5 := Lib.hid H5.acts
              have H6 := Lib.hid H5
              clear H5
              go_wp2
              have hrel : Cl.DnRel l rows c X w0 W t n vp μ w2 := ⟨f, td2.reverse, out2 ++ [(1, (p : Int))], H6.out, by rw [List.length_reverse]; exact h60, by rw [List.length_append, List.length_singleton]; omega, by rw [List.length_append, List.length_singleton]; omega, Lib.hid (fun y hy => HNP.out y (by simpa using hy)), by rw [List.reverse_reverse]; exact HX2⟩
              go_roundw
              case rel => exact hrel
              case measure => rw [HAC.out, HAC5.out, List.length_append, List.length_singleton]; omega
            · rw [decide_eq_false hok] at hcon
              have hx := HX.out
              rw [Cl.dn_deep HY.out HNT.out HQ.out HQ0.out (by rw [hpq]; exact hok)] at hx
              subst hx
              have HCO := Lib.hid hcon
              clear HX hcon hbg hb8 hpq hok hq0
              go_wp2_with (fail)
              go_at_call 160
              refine HCO.out.mono ?_
              rintro e w2 ⟨rfl, H5⟩
              go_wp2
              go_ret
              exact ⟨rfl, _, _, H5, fun h => by cases h⟩
end Go.Proofs.Ytldapomcjfkeeaa
