/-
  One who reads a tree from the top.
-/
import Derived.Test.YtldapomcjfkeeaaTrNext
namespace Go.Proofs.Ytldapomcjfkeeaa
set_option linter.unusedVariables false
set_option linter.unusedSimpArgs false
open Go.ChangeShapes Go.WideShapes Go.ChangeAt Go.RowKit

namespace Tr
section
variable {chk : Bool} {G : Gm} {f c : Nat} {x e : Int × Int} {s : List Ev}
theorem dn_nil : dn chk G (f + 1) x [] c = none := rfl
theorem dn_leaf_yes (hx : x.1 = 1) (he : e.1 = 2) (hc : chk = true → e.2 = (c : Int)) : dn chk G (f + 1) x (e :: s) c = some (.mk (-1) e.2 [], s, c + 1) := by
  rw [dn, if_pos hx, if_pos ⟨he, hc⟩]
theorem dn_leaf_no (hx : x.1 = 1) (he : ¬ (e.1 = 2 ∧ (chk = true → e.2 = (c : Int)))) : dn chk G (f + 1) x (e :: s) c = none := by
  rw [dn, if_pos hx, if_neg he]
theorem dn_bad (hx : x.1 ≠ 1) (hc : ¬ (e.1 = 1 ∧ 0 ≤ e.2 ∧ e.2 < G.length ∧ (G.getD e.2.toNat (0, [])).1 = x.2)) : dn chk G (f + 1) x (e :: s) c = none := by
  rw [dn, if_neg hx, if_neg hc]
theorem dn_kids_none (hx : x.1 ≠ 1) (hc : e.1 = 1 ∧ 0 ≤ e.2 ∧ e.2 < G.length ∧ (G.getD e.2.toNat (0, [])).1 = x.2) (hk : dnK (dn chk G f) (G.getD e.2.toNat (0, [])).2 s c = none) : dn chk G (f + 1) x (e :: s) c = none := by
  rw [dn, if_neg hx, if_pos hc, hk]
theorem dn_kids_yes {ts : List Tr} {e' : Ev} {s' : List Ev} {c' : Nat} (hx : x.1 ≠ 1) (hc : e.1 = 1 ∧ 0 ≤ e.2 ∧ e.2 < G.length ∧ (G.getD e.2.toNat (0, [])).1 = x.2) (hk : dnK (dn chk G f) (G.getD e.2.toNat (0, [])).2 s c = some (ts, e' :: s', c')) (hm : e'.1 = 3 ∧ e'.2 = e.2) : dn chk G (f + 1) x (e :: s) c = some (.mk e.2 0 ts, s', c') := by
  rw [dn, if_neg hx, if_pos hc, hk]
  simp only [hm, and_self, if_true]
theorem dn_kids_no {ts : List Tr} {s' : List Ev} {c' : Nat} (hx : x.1 ≠ 1) (hc : e.1 = 1 ∧ 0 ≤ e.2 ∧ e.2 < G.length ∧ (G.getD e.2.toNat (0, [])).1 = x.2) (hk : dnK (dn chk G f) (G.getD e.2.toNat (0, [])).2 s c = some (ts, s', c')) (hm : ∀ e' s2, s' = e' :: s2 → ¬ (e'.1 = 3 ∧ e'.2 = e.2)) : dn chk G (f + 1) x (e :: s) c = none := by
  rw [dn, if_neg hx, if_pos hc, hk]
  cases s' with
  | nil => rfl
  | cons e' s2 => simp only; rw [if_neg (hm e' s2 rfl)]
variable {g : (Int × Int) → List Ev → Nat → Option R3} {b : List (Int × Int)} {k : Nat} {A : List Tr}
theorem dnK_none (hk : k < b.length) (h : g (b.getD k (0, 0)) s c = none) : (dnK g (b.drop k) s c).map (fun z => (A ++ z.1, z.2)) = none := by
  rw [Gr.drop_at b (0, 0) k hk, dnK, h]; rfl
theorem dnK_some (hk : k < b.length) {q : R3} (h : g (b.getD k (0, 0)) s c = some q) : (dnK g (b.drop k) s c).map (fun z => (A ++ z.1, z.2)) = (dnK g (b.drop (k + 1)) q.2.1 q.2.2).map (fun z => (A ++ [q.1] ++ z.1, z.2)) := by
  rw [Gr.drop_at b (0, 0) k hk, dnK, h]
  simp only
  cases dnK g (b.drop (k + 1)) q.2.1 q.2.2 with
  | none => rfl
  | some r => simp
theorem dnK_end : (dnK g (b.drop b.length) s c).map (fun z => (A ++ z.1, z.2)) = some (A, s, c) := by
  rw [List.drop_length, dnK]; simp
end
def DnPost (w0 : World) (R : Nat) (tg ng : Int) (vp vl : Value) (E : List Ev) (D : Option R3) (μ : List Asrt) (e : Ending) (w' : World) : Prop :=
  (D = none → ∃ (a b : Int) (ao : Option Addr) (n c at' tk' : Nat), e = .returned (.tuple #[.agg #[.int .i64 a, .int .i64 b, .slice ao n c], .bool false]) ∧ St w0 w' (rd R tg ng vp vl at' tk' :: μ)) ∧
  (∀ q, D = some q → ∃ (ao : Option Addr) (n c at' : Nat) (fp : List Nat), e = .returned (.tuple #[.agg #[.int .i64 q.1.prod, .int .i64 q.1.tok, .slice ao n c], .bool true]) ∧ E.drop at' = q.2.1 ∧ at' ≤ E.length ∧ q.2.2 ≤ at' ∧ In64 q.1.prod ∧ In64 q.1.tok ∧
    St w0 w' (aEnc (any.sl 40) fp [.slice ao n c] q.1.kids :: rd R tg ng vp vl at' q.2.2 :: μ))
theorem drop_next {E : List Ev} {a : Nat} {e : Ev} {s : List Ev} (h : E.drop a = e :: s) : E.drop (a + 1) = s ∧ a + 1 ≤ E.length := by
  have hlt : a < E.length := by
    rcases Nat.lt_or_ge a E.length with h1 | h1
    · exact h1
    · rw [List.drop_eq_nil_of_le h1] at h; cases h
  rw [Gr.drop_at E (0, 0) a hlt] at h
  exact ⟨(List.cons.inj h).2, hlt⟩
theorem nilEnc {w0 w : World} {μ : List Asrt} (h : St w0 w μ) : St w0 w (aEnc (any.sl 40) [] [.slice Option.none 0 0] [] :: μ) :=
  h.push (Below.refl _ _) sl_nil (fun b hb => by simp [aEnc] at hb) (by simp [aEnc])
end Tr

set_option maxRecDepth 100000 in
set_option maxHeartbeats 8000000 in
theorem trDn_any (w0 : World) (R : Nat) (tg ng : Int) (vp : Value) (l : List (Int × List (Int × Int))) (F : Nat → Prop) (hp : Enc.prods.R F w0 [vp] l) (hl : l.length ≤ 40) (hb8 : ∀ p ∈ l, p.2.length ≤ 8) (al : Option Addr) (cl : Nat) (E : List Tr.Ev) (hev : (Enc.two.sl 16).R F w0 [.slice al E.length cl] E) (hE : E.length ≤ 2000) :
    ∀ (f : Nat) (x : Int × Int) (s : List Tr.Ev) (at_ c : Nat) (μ : List Asrt) (w : World), E.drop at_ = s → at_ ≤ E.length → c ≤ at_ → s.length < f → St w0 w (Tr.rd R tg ng vp (.slice al E.length cl) at_ c :: μ) →
      Calls Try.prog 115 #[.pointer (some ⟨R, 0, none⟩), .agg #[.int .i64 x.1, .int .i64 x.2]] w (Tr.DnPost w0 R tg ng vp (.slice al E.length cl) E (Tr.dn true l f x s c) μ) := by
  obtain ⟨ap, bp, op, cp, rfl, -, p3, p4⟩ := slProds hp
  have HBD := Lib.hid (fun (a : Nat) (h : a < E.length) => (slTwo hev).choose_spec)
  have HBND : Hid (∀ a, a < E.length → Tr.In64 (E.getD a (0, 0)).1 ∧ Tr.In64 (E.getD a (0, 0)).2) := Lib.hid (fun a h => by
    obtain ⟨_, _, _, _, _, _, _, h4⟩ := slTwo hev
    exact ⟨(h4 a h).2.2.1, (h4 a h).2.2.2⟩)
  clear HBD
  have HEV := Lib.hid hev
  have P3 := Lib.hid p3; have P4 := Lib.hid p4; have HL := Lib.hid hl; have HB8 := Lib.hid hb8
  clear p3 p4 hp hl hb8 hev
  intro f
  induction f with
  | zero => intro x s at_ c μ w _ _ _ h; omega
  | succ f ih =>
    intro x s at_ c μ w hs hat hc hsf hst
    obtain ⟨x1, x2⟩ := x
    have IH := Lib.hid ih
    have hbig := ((hst.alloc #[.int .i64 x1, .int .i64 x2] 96).alloc #[.int .i64 0, .int .i64 0, .slice none 0 0] 71).pick [2, 0, 1] 3 rfl rfl
    simp only [World.size_alloc] at hbig
    obtain ⟨x0, x1'⟩ := hbig.at2 2 rfl
    have HST := Lib.hid hbig
    clear hst hbig ih
    have HS := Lib.hid hs
    by_cases hx : x1 = 1
    · subst hx
      by_cases hy : ∃ e s', s = e :: s' ∧ e.1 = 2
      · obtain ⟨e, s', rfl, he⟩ := hy
        obtain ⟨hs1, hat1⟩ := Tr.drop_next hs
        have HN := Lib.hid (trNext_yes w0 R tg ng _ al cl E at_ c 2 e s' _ _ F HEV.out hE hs he HST.out)
        have hbe := HBND.out at_ (by omega)
        rw [Gr.drop_at E (0, 0) at_ (by omega)] at hs
        rw [(List.cons.inj hs).1] at hbe
        have HBE := Lib.hid hbe
        have HS1 := Lib.hid hs1
        by_cases hk : e.2 = c
        · have HD := Lib.hid (Tr.dn_leaf_yes (chk := true) (G := l) (f := f) (c := c) (x := (1, x2)) (e := e) (s := s') rfl he (fun _ => hk))
          obtain ⟨e1, e2⟩ := e
          simp only at he hk
          subst he hk
          clear hs hbe hs1
          go_enter Try.func115, Try.ntmps115
          go_wp2_with (fail)
          go_at_call 150
          refine HN.out.mono ?_
          rintro e w1 ⟨rfl, hst1⟩
          obtain ⟨q2, q3, q4, q5, q6, q7⟩ := Tr.rdCells hst1 0 rfl
          have HST1 := Lib.hid (show St w0 (w1.setCell ⟨R, 5, none⟩ (.int .i64 ((c : Int) + 1))) (Tr.rd R tg ng (.slice ap l.length cp) (.slice al E.length cl) (at_ + 1) (c + 1) :: _) from hst1.setCel 5 (.int .i64 ((c : Int) + 1)))
          clear hst1 HN HST x0 x1'
          go_wp2_with (fail)
          clear q2 q3 q4 q5 q6 q7
          generalize w1.setCell ⟨R, 5, none⟩ (.int .i64 ((c : Int) + 1)) = w2 at *
          obtain ⟨r0, r1, r2⟩ := HST1.out.at3 1 rfl
          have f0 := (HST1.out.nth 1 rfl).celFree 0; have f1 := (HST1.out.nth 1 rfl).celFree 1; have f2 := (HST1.out.nth 1 rfl).celFree 2
          obtain ⟨q2, q3, q4, q5, q6, q7⟩ := Tr.rdCells HST1.out 0 rfl
          have hw1 : IntKind.i64.wrap (c : Int) = (c : Int) := IntWalk.i64_in _ (by omega)
          have HST2 := Lib.hid (((HST1.out.get2).setCel 0 (.int .i64 (-1))).setCel 1 (.int .i64 c) |>.setCel 2 (.slice none 0 0)).drew
          obtain ⟨-, -, -, q5', -, -⟩ := Tr.rdCells HST2.out 1 rfl
          clear q2 q3 q4 q6 q7
          refine wp_region_held_drew (S := (fun w' => w'.cell? ⟨R, 5, none⟩ = some (.int .i64 ((c + 1 : Nat) : Int)))) (by kernel_rfl) ?_ (fun hHeld => ?_)
          · (try dsimp only); (first | exact q5 | exact q5' | go_keep)

          refine wpAnyH_take (i := 0) (v := ?_) rfl (by kernel_rfl) (by kernel_rfl) (by kernel_rfl) (fun _ _ _ h => h) (Or.inl ⟨by rfl, ?_⟩) (by assumption) ?_
          rotate_left; focus (intro w hSw; (try dsimp only at hSw); go_simp; try (with_reducible rfl); done)
          try simp only [List.getElem_toArray, List.getElem_cons_zero, List.getElem_cons_succ, Act.put, List.setIfInBounds_toArray, List.set_cons_zero, List.set_cons_succ]
          refine wpAnyH_take (i := 1) (v := ?_) rfl (by kernel_rfl) (by kernel_rfl) (by kernel_rfl) (fun _ _ _ h => h) (Or.inl ⟨by rfl, ?_⟩) (by assumption) ?_
          rotate_left; focus (intro w hSw; (try dsimp only at hSw); go_simp; try (with_reducible rfl); done)
          try simp only [List.getElem_toArray, List.getElem_cons_zero, List.getElem_cons_succ, Act.put, List.setIfInBounds_toArray, List.set_cons_zero, List.set_cons_succ]
          refine wpAnyH_take (i := 2) (v := ?_) rfl (by kernel_rfl) (by kernel_rfl) (by kernel_rfl) (fun _ _ _ h => h) (Or.inl ⟨by rfl, ?_⟩) (by assumption) ?_
          rotate_left; focus (intro w hSw; (try dsimp only at hSw); go_simp; try (with_reducible rfl); done)
          try simp only [List.getElem_toArray, List.getElem_cons_zero, List.getElem_cons_succ, Act.put, List.setIfInBounds_toArray, List.set_cons_zero, List.set_cons_succ]
          refine wpAnyH_take (i := 3) (v := ?_) rfl (by kernel_rfl) (by kernel_rfl) (by kernel_rfl) (fun _ _ _ h => h) (Or.inl ⟨by rfl, ?_⟩) (by assumption) ?_
          rotate_left; focus (intro w hSw; (try dsimp only at hSw); go_simp; try (with_reducible rfl); done)
          try simp only [List.getElem_toArray, List.getElem_cons_zero, List.getElem_cons_succ, Act.put, List.setIfInBounds_toArray, List.set_cons_zero, List.set_cons_succ]
          refine wpAnyH_take (i := 4) (v := ?_) rfl (by kernel_rfl) (by kernel_rfl) (by kernel_rfl) (fun _ _ _ h => h) (Or.inl ⟨by rfl, ?_⟩) (by assumption) ?_
          rotate_left; focus (intro w hSw; (try dsimp only at hSw); go_simp; try (with_reducible rfl); done)
          try simp only [List.getElem_toArray, List.getElem_cons_zero, List.getElem_cons_succ, Act.put, List.setIfInBounds_toArray, List.set_cons_zero, List.set_cons_succ]
          refine wpAnyH_take (i := 5) (v := ?_) rfl (by kernel_rfl) (by kernel_rfl) (by kernel_rfl) (fun _ _ _ h => h) (Or.inl ⟨by rfl, ?_⟩) (by assumption) ?_
          rotate_left; focus (intro w hSw; (try dsimp only at hSw); go_simp; try (with_reducible rfl); done)
          try simp only [List.getElem_toArray, List.getElem_cons_zero, List.getElem_cons_succ, Act.put, List.setIfInBounds_toArray, List.set_cons_zero, List.set_cons_succ]
          refine wpAnyH_take (i := 6) (v := ?_) rfl (by kernel_rfl) (by kernel_rfl) (by kernel_rfl) (fun _ _ _ h => h) (Or.inl ⟨by rfl, ?_⟩) (by assumption) ?_
          rotate_left; focus (intro w hSw; (try dsimp only at hSw); go_simp; try (with_reducible rfl); done)
          try simp only [List.getElem_toArray, List.getElem_cons_zero, List.getElem_cons_succ, Act.put, List.setIfInBounds_toArray, List.set_cons_zero, List.set_cons_succ]
          refine wpAnyH_take (i := 7) (v := ?_) rfl (by kernel_rfl) (by kernel_rfl) (by kernel_rfl) (fun _ _ _ h => h) (Or.inl ⟨by rfl, ?_⟩) (by assumption) ?_
          rotate_left; focus (intro w hSw; (try dsimp only at hSw); go_simp; try (with_reducible rfl); done)
          try simp only [List.getElem_toArray, List.getElem_cons_zero, List.getElem_cons_succ, Act.put, List.setIfInBounds_toArray, List.set_cons_zero, List.set_cons_succ]
          refine wpAnyH_take (i := 8) (v := ?_) rfl (by kernel_rfl) (by kernel_rfl) (by kernel_rfl) (fun _ _ _ h => h) (Or.inl ⟨by rfl, ?_⟩) (by assumption) ?_
          rotate_left; focus (intro w hSw; (try dsimp only at hSw); go_simp; try (with_reducible rfl); done)
          try simp only [List.getElem_toArray, List.getElem_cons_zero, List.getElem_cons_succ, Act.put, List.setIfInBounds_toArray, List.set_cons_zero, List.set_cons_succ]
          refine wpAnyH_take (i := 9) (v := ?_) rfl (by kernel_rfl) (by kernel_rfl) (by kernel_rfl) (fun _ _ _ h => h) (Or.inl ⟨by rfl, ?_⟩) (by assumption) ?_
          rotate_left; focus (intro w hSw; (try dsimp only at hSw); go_simp; try (with_reducible rfl); done)
          try simp only [List.getElem_toArray, List.getElem_cons_zero, List.getElem_cons_succ, Act.put, List.setIfInBounds_toArray, List.set_cons_zero, List.set_cons_succ]
          refine wpAnyH_take (i := 10) (v := ?_) rfl (by kernel_rfl) (by kernel_rfl) (by kernel_rfl) (fun _ _ _ h => h) (Or.inl ⟨by rfl, ?_⟩) (by assumption) ?_
          rotate_left; focus (intro w hSw; (try dsimp only at hSw); go_simp; try (with_reducible rfl); done)
          try simp only [List.getElem_toArray, List.getElem_cons_zero, List.getElem_cons_succ, Act.put, List.setIfInBounds_toArray, List.set_cons_zero, List.set_cons_succ]
          refine wpAnyH_take (i := 11) (v := ?_) rfl (by kernel_rfl) (by kernel_rfl) (by kernel_rfl) (fun _ _ _ h => h) (Or.inl ⟨by rfl, ?_⟩) (by assumption) ?_
          rotate_left; focus (intro w hSw; (try dsimp only at hSw); go_simp; try (with_reducible rfl); done)
          try simp only [List.getElem_toArray, List.getElem_cons_zero, List.getElem_cons_succ, Act.put, List.setIfInBounds_toArray, List.set_cons_zero, List.set_cons_succ]
          refine wpAnyH_ready (rs := [12]) (by kernel_rfl) (by simp) ?_
          refine AllReadyH.cons rfl (fun K hK => ?_) AllReadyH.nil
          go_simp
          refine hK.out _ _ ?_ (fun hHeld => ?_)
          · (try dsimp only); (first | exact q5 | exact q5' | go_keep)
          clear hK K
          try simp only [List.getElem_toArray, List.getElem_cons_zero, List.getElem_cons_succ, Act.put, List.setIfInBounds_toArray, List.set_cons_zero, List.set_cons_succ]
          refine wpAnyH_take (i := 13) (v := ?_) rfl (by kernel_rfl) (by kernel_rfl) (by kernel_rfl) (fun _ _ _ h => h) (Or.inl ⟨by rfl, ?_⟩) (by assumption) ?_
          rotate_left; focus (intro w hSw; (try dsimp only at hSw); go_simp; try (with_reducible rfl); done)
          try simp only [List.getElem_toArray, List.getElem_cons_zero, List.getElem_cons_succ, Act.put, List.setIfInBounds_toArray, List.set_cons_zero, List.set_cons_succ]
          refine wpAnyH_done (by kernel_rfl) ?_ _
          go_wp2
          obtain ⟨r0, r1, r2⟩ := HST2.out.at3 0 rfl
          refine bodyPost_ret (Tr.resT rfl _ _ _ rfl r0 r1 r2) rfl ?_
          refine ⟨fun h => (by rw [HD.out] at h; cases h), fun q hq => ?_⟩
          rw [HD.out] at hq
          cases hq
          exact ⟨none, 0, 0, at_ + 1, [], rfl, HS1.out, hat1, by simp only; omega, ⟨by simp only [Tr.prod]; omega, by simp only [Tr.prod]; omega⟩, HBE.out.2, Tr.nilEnc (HST2.out.pick [1] 3 rfl rfl)⟩
        · have HD := Lib.hid (Tr.dn_leaf_no (chk := true) (G := l) (f := f) (c := c) (x := (1, x2)) (e := e) (s := s') rfl (fun h => hk (h.2 rfl)))
          obtain ⟨e1, e2⟩ := e
          simp only at he hk
          subst he
          have hkb : (e2 == (c : Int)) = false := by rw [beq_eq_false_iff_ne]; exact hk
          clear hs hbe hs1
          go_enter Try.func115, Try.ntmps115
          go_wp2_with (fail)
          go_at_call 150
          refine HN.out.mono ?_
          rintro e w1 ⟨rfl, hst1⟩
          obtain ⟨q2, q3, q4, q5, q6, q7⟩ := Tr.rdCells hst1 0 rfl
          have HST1 := Lib.hid (show St w0 (w1.setCell ⟨R, 5, none⟩ (.int .i64 ((c : Int) + 1))) (Tr.rd R tg ng (.slice ap l.length cp) (.slice al E.length cl) (at_ + 1) (c + 1) :: _) from hst1.setCel 5 (.int .i64 ((c : Int) + 1)))
          clear hst1 HN HST x0 x1'
          go_wp2_with (fail)
          clear q2 q3 q4 q5 q6 q7
          generalize w1.setCell ⟨R, 5, none⟩ (.int .i64 ((c : Int) + 1)) = w2 at *
          obtain ⟨r0, r1, r2⟩ := HST1.out.at3 1 rfl
          have f0 := (HST1.out.nth 1 rfl).celFree 0; have f1 := (HST1.out.nth 1 rfl).celFree 1; have f2 := (HST1.out.nth 1 rfl).celFree 2
          obtain ⟨q2, q3, q4, q5, q6, q7⟩ := Tr.rdCells HST1.out 0 rfl
          have hw1 : IntKind.i64.wrap (c : Int) = (c : Int) := IntWalk.i64_in _ (by omega)
          have HST2 := Lib.hid (((HST1.out.get2).setCel 0 (.int .i64 (-1))).setCel 1 (.int .i64 e2) |>.setCel 2 (.slice none 0 0)).drew
          obtain ⟨-, -, -, q5', -, -⟩ := Tr.rdCells HST2.out 1 rfl
          clear q2 q3 q4 q6 q7
          refine wp_region_held_drew (S := (fun w' => w'.cell? ⟨R, 5, none⟩ = some (.int .i64 ((c + 1 : Nat) : Int)))) (by kernel_rfl) ?_ (fun hHeld => ?_)
          · (try dsimp only); (first | exact q5 | exact q5' | go_keep)

          refine wpAnyH_take (i := 0) (v := ?_) rfl (by kernel_rfl) (by kernel_rfl) (by kernel_rfl) (fun _ _ _ h => h) (Or.inl ⟨by rfl, ?_⟩) (by assumption) ?_
          rotate_left; focus (intro w hSw; (try dsimp only at hSw); go_simp; try (with_reducible rfl); done)
          try simp only [List.getElem_toArray, List.getElem_cons_zero, List.getElem_cons_succ, Act.put, List.setIfInBounds_toArray, List.set_cons_zero, List.set_cons_succ]
          refine wpAnyH_take (i := 1) (v := ?_) rfl (by kernel_rfl) (by kernel_rfl) (by kernel_rfl) (fun _ _ _ h => h) (Or.inl ⟨by rfl, ?_⟩) (by assumption) ?_
          rotate_left; focus (intro w hSw; (try dsimp only at hSw); go_simp; try (with_reducible rfl); done)
          try simp only [List.getElem_toArray, List.getElem_cons_zero, List.getElem_cons_succ, Act.put, List.setIfInBounds_toArray, List.set_cons_zero, List.set_cons_succ]
          refine wpAnyH_take (i := 2) (v := ?_) rfl (by kernel_rfl) (by kernel_rfl) (by kernel_rfl) (fun _ _ _ h => h) (Or.inl ⟨by rfl, ?_⟩) (by assumption) ?_
          rotate_left; focus (intro w hSw; (try dsimp only at hSw); go_simp; try (with_reducible rfl); done)
          try simp only [List.getElem_toArray, List.getElem_cons_zero, List.getElem_cons_succ, Act.put, List.setIfInBounds_toArray, List.set_cons_zero, List.set_cons_succ]
          refine wpAnyH_take (i := 3) (v := ?_) rfl (by kernel_rfl) (by kernel_rfl) (by kernel_rfl) (fun _ _ _ h => h) (Or.inl ⟨by rfl, ?_⟩) (by assumption) ?_
          rotate_left; focus (intro w hSw; (try dsimp only at hSw); go_simp; try (with_reducible rfl); done)
          try simp only [List.getElem_toArray, List.getElem_cons_zero, List.getElem_cons_succ, Act.put, List.setIfInBounds_toArray, List.set_cons_zero, List.set_cons_succ]
          refine wpAnyH_take (i := 4) (v := ?_) rfl (by kernel_rfl) (by kernel_rfl) (by kernel_rfl) (fun _ _ _ h => h) (Or.inl ⟨by rfl, ?_⟩) (by assumption) ?_
          rotate_left; focus (intro w hSw; (try dsimp only at hSw); go_simp; try (with_reducible rfl); done)
          try simp only [List.getElem_toArray, List.getElem_cons_zero, List.getElem_cons_succ, Act.put, List.setIfInBounds_toArray, List.set_cons_zero, List.set_cons_succ]
          refine wpAnyH_take (i := 5) (v := ?_) rfl (by kernel_rfl) (by kernel_rfl) (by kernel_rfl) (fun _ _ _ h => h) (Or.inl ⟨by rfl, ?_⟩) (by assumption) ?_
          rotate_left; focus (intro w hSw; (try dsimp only at hSw); go_simp; try (with_reducible rfl); done)
          try simp only [List.getElem_toArray, List.getElem_cons_zero, List.getElem_cons_succ, Act.put, List.setIfInBounds_toArray, List.set_cons_zero, List.set_cons_succ]
          refine wpAnyH_take (i := 6) (v := ?_) rfl (by kernel_rfl) (by kernel_rfl) (by kernel_rfl) (fun _ _ _ h => h) (Or.inl ⟨by rfl, ?_⟩) (by assumption) ?_
          rotate_left; focus (intro w hSw; (try dsimp only at hSw); go_simp; try (with_reducible rfl); done)
          try simp only [List.getElem_toArray, List.getElem_cons_zero, List.getElem_cons_succ, Act.put, List.setIfInBounds_toArray, List.set_cons_zero, List.set_cons_succ]
          refine wpAnyH_take (i := 7) (v := ?_) rfl (by kernel_rfl) (by kernel_rfl) (by kernel_rfl) (fun _ _ _ h => h) (Or.inl ⟨by rfl, ?_⟩) (by assumption) ?_
          rotate_left; focus (intro w hSw; (try dsimp only at hSw); go_simp; try (with_reducible rfl); done)
          try simp only [List.getElem_toArray, List.getElem_cons_zero, List.getElem_cons_succ, Act.put, List.setIfInBounds_toArray, List.set_cons_zero, List.set_cons_succ]
          refine wpAnyH_take (i := 8) (v := ?_) rfl (by kernel_rfl) (by kernel_rfl) (by kernel_rfl) (fun _ _ _ h => h) (Or.inl ⟨by rfl, ?_⟩) (by assumption) ?_
          rotate_left; focus (intro w hSw; (try dsimp only at hSw); go_simp; try (with_reducible rfl); done)
          try simp only [List.getElem_toArray, List.getElem_cons_zero, List.getElem_cons_succ, Act.put, List.setIfInBounds_toArray, List.set_cons_zero, List.set_cons_succ]
          refine wpAnyH_take (i := 9) (v := ?_) rfl (by kernel_rfl) (by kernel_rfl) (by kernel_rfl) (fun _ _ _ h => h) (Or.inl ⟨by rfl, ?_⟩) (by assumption) ?_
          rotate_left; focus (intro w hSw; (try dsimp only at hSw); go_simp; try (with_reducible rfl); done)
          try simp only [List.getElem_toArray, List.getElem_cons_zero, List.getElem_cons_succ, Act.put, List.setIfInBounds_toArray, List.set_cons_zero, List.set_cons_succ]
          refine wpAnyH_take (i := 10) (v := ?_) rfl (by kernel_rfl) (by kernel_rfl) (by kernel_rfl) (fun _ _ _ h => h) (Or.inl ⟨by rfl, ?_⟩) (by assumption) ?_
          rotate_left; focus (intro w hSw; (try dsimp only at hSw); go_simp; try (with_reducible rfl); done)
          try simp only [List.getElem_toArray, List.getElem_cons_zero, List.getElem_cons_succ, Act.put, List.setIfInBounds_toArray, List.set_cons_zero, List.set_cons_succ]
          refine wpAnyH_take (i := 11) (v := ?_) rfl (by kernel_rfl) (by kernel_rfl) (by kernel_rfl) (fun _ _ _ h => h) (Or.inl ⟨by rfl, ?_⟩) (by assumption) ?_
          rotate_left; focus (intro w hSw; (try dsimp only at hSw); go_simp; try (with_reducible rfl); done)
          try simp only [List.getElem_toArray, List.getElem_cons_zero, List.getElem_cons_succ, Act.put, List.setIfInBounds_toArray, List.set_cons_zero, List.set_cons_succ]
          refine wpAnyH_ready (rs := [12]) (by kernel_rfl) (by simp) ?_
          refine AllReadyH.cons rfl (fun K hK => ?_) AllReadyH.nil
          go_simp
          refine hK.out _ _ ?_ (fun hHeld => ?_)
          · (try dsimp only); (first | exact q5 | exact q5' | go_keep)
          clear hK K
          try simp only [List.getElem_toArray, List.getElem_cons_zero, List.getElem_cons_succ, Act.put, List.setIfInBounds_toArray, List.set_cons_zero, List.set_cons_succ]
          refine wpAnyH_take (i := 13) (v := ?_) rfl (by kernel_rfl) (by kernel_rfl) (by kernel_rfl) (fun _ _ _ h => h) (Or.inl ⟨by rfl, ?_⟩) (by assumption) ?_
          rotate_left; focus (intro w hSw; (try dsimp only at hSw); go_simp; try (with_reducible rfl); done)
          try simp only [List.getElem_toArray, List.getElem_cons_zero, List.getElem_cons_succ, Act.put, List.setIfInBounds_toArray, List.set_cons_zero, List.set_cons_succ]
          refine wpAnyH_done (by kernel_rfl) ?_ _
          go_wp2
          obtain ⟨r0, r1, r2⟩ := HST2.out.at3 0 rfl
          refine bodyPost_ret (Tr.resT rfl _ _ _ rfl r0 r1 r2) rfl ?_
          refine ⟨fun _ => ⟨-1, e2, none, 0, 0, at_ + 1, c + 1, rfl, HST2.out.pick [1] 3 rfl rfl⟩, fun q hq => ?_⟩
          rw [HD.out] at hq
          cases hq
      · have hno : ∀ e s', E.drop at_ = e :: s' → e.1 ≠ 2 := fun e s' h => fun h2 => hy ⟨e, s', by rw [← hs]; exact h, h2⟩
        have HD : Hid (Tr.dn true l (f + 1) (1, x2) s c = none) := Lib.hid (by
          cases s with
          | nil => rfl
          | cons e s' => exact Tr.dn_leaf_no rfl (fun h => hy ⟨e, s', rfl, h.1⟩))
        have HN := Lib.hid (trNext_no w0 R tg ng _ al cl E at_ c 2 _ _ F HEV.out hE hat hno HST.out)
        clear hs hy hno
        go_enter Try.func115, Try.ntmps115
        go_wp2_with (fail)
        go_at_call 150
        refine HN.out.mono ?_
        rintro e w1 ⟨rfl, hst1⟩
        obtain ⟨q2, q3, q4, q5, q6, q7⟩ := Tr.rdCells hst1 0 rfl
        have HST1 := Lib.hid (show St w0 (w1.setCell ⟨R, 5, none⟩ (.int .i64 ((c : Int) + 1))) (Tr.rd R tg ng (.slice ap l.length cp) (.slice al E.length cl) at_ (c + 1) :: _) from hst1.setCel 5 (.int .i64 ((c : Int) + 1)))
        clear hst1 HN HST x0 x1'
        go_wp2_with (fail)
        clear q2 q3 q4 q5 q6 q7
        generalize w1.setCell ⟨R, 5, none⟩ (.int .i64 ((c : Int) + 1)) = w2 at *
        obtain ⟨r0, r1, r2⟩ := HST1.out.at3 1 rfl
        have f0 := (HST1.out.nth 1 rfl).celFree 0; have f1 := (HST1.out.nth 1 rfl).celFree 1; have f2 := (HST1.out.nth 1 rfl).celFree 2
        obtain ⟨q2, q3, q4, q5, q6, q7⟩ := Tr.rdCells HST1.out 0 rfl
        have HST2 := Lib.hid (((HST1.out.get2).setCel 0 (.int .i64 (-1))).setCel 1 (.int .i64 0) |>.setCel 2 (.slice none 0 0)).drew
        obtain ⟨-, -, -, q5', -, -⟩ := Tr.rdCells HST2.out 1 rfl
        clear q2 q3 q4 q6 q7
        refine wp_region_held_drew (S := (fun w' => w'.cell? ⟨R, 5, none⟩ = some (.int .i64 ((c + 1 : Nat) : Int)))) (by kernel_rfl) ?_ (fun hHeld => ?_)
        · (try dsimp only); (first | exact q5 | exact q5' | go_keep)

        refine wpAnyH_take (i := 0) (v := ?_) rfl (by kernel_rfl) (by kernel_rfl) (by kernel_rfl) (fun _ _ _ h => h) (Or.inl ⟨by rfl, ?_⟩) (by assumption) ?_
        rotate_left; focus (intro w hSw; (try dsimp only at hSw); go_simp; try (with_reducible rfl); done)
        try simp only [List.getElem_toArray, List.getElem_cons_zero, List.getElem_cons_succ, Act.put, List.setIfInBounds_toArray, List.set_cons_zero, List.set_cons_succ]
        refine wpAnyH_take (i := 1) (v := ?_) rfl (by kernel_rfl) (by kernel_rfl) (by kernel_rfl) (fun _ _ _ h => h) (Or.inl ⟨by rfl, ?_⟩) (by assumption) ?_
        rotate_left; focus (intro w hSw; (try dsimp only at hSw); go_simp; try (with_reducible rfl); done)
        try simp only [List.getElem_toArray, List.getElem_cons_zero, List.getElem_cons_succ, Act.put, List.setIfInBounds_toArray, List.set_cons_zero, List.set_cons_succ]
        refine wpAnyH_take (i := 2) (v := ?_) rfl (by kernel_rfl) (by kernel_rfl) (by kernel_rfl) (fun _ _ _ h => h) (Or.inl ⟨by rfl, ?_⟩) (by assumption) ?_
        rotate_left; focus (intro w hSw; (try dsimp only at hSw); go_simp; try (with_reducible rfl); done)
        try simp only [List.getElem_toArray, List.getElem_cons_zero, List.getElem_cons_succ, Act.put, List.setIfInBounds_toArray, List.set_cons_zero, List.set_cons_succ]
        refine wpAnyH_take (i := 3) (v := ?_) rfl (by kernel_rfl) (by kernel_rfl) (by kernel_rfl) (fun _ _ _ h => h) (Or.inl ⟨by rfl, ?_⟩) (by assumption) ?_
        rotate_left; focus (intro w hSw; (try dsimp only at hSw); go_simp; try (with_reducible rfl); done)
        try simp only [List.getElem_toArray, List.getElem_cons_zero, List.getElem_cons_succ, Act.put, List.setIfInBounds_toArray, List.set_cons_zero, List.set_cons_succ]
        first | (refine wpAnyH_take (i := 4) (v := undef) rfl (by kernel_rfl) (by kernel_rfl) (by kernel_rfl) (fun _ _ _ h => h) (Or.inr ⟨by rfl, rfl⟩) (by assumption) ?_) | (refine wpAnyH_take (i := 4) (v := ?_) rfl (by kernel_rfl) (by kernel_rfl) (by kernel_rfl) (fun _ _ _ h => h) (Or.inl ⟨by rfl, ?_⟩) (by assumption) ?_; rotate_left; focus (intro w hSw; (try dsimp only at hSw); go_simp; try (with_reducible rfl); done))
        try simp only [List.getElem_toArray, List.getElem_cons_zero, List.getElem_cons_succ, Act.put, List.setIfInBounds_toArray, List.set_cons_zero, List.set_cons_succ]
        first | (refine wpAnyH_take (i := 5) (v := undef) rfl (by kernel_rfl) (by kernel_rfl) (by kernel_rfl) (fun _ _ _ h => h) (Or.inr ⟨by rfl, rfl⟩) (by assumption) ?_) | (refine wpAnyH_take (i := 5) (v := ?_) rfl (by kernel_rfl) (by kernel_rfl) (by kernel_rfl) (fun _ _ _ h => h) (Or.inl ⟨by rfl, ?_⟩) (by assumption) ?_; rotate_left; focus (intro w hSw; (try dsimp only at hSw); go_simp; try (with_reducible rfl); done))
        try simp only [List.getElem_toArray, List.getElem_cons_zero, List.getElem_cons_succ, Act.put, List.setIfInBounds_toArray, List.set_cons_zero, List.set_cons_succ]
        first | (refine wpAnyH_take (i := 6) (v := undef) rfl (by kernel_rfl) (by kernel_rfl) (by kernel_rfl) (fun _ _ _ h => h) (Or.inr ⟨by rfl, rfl⟩) (by assumption) ?_) | (refine wpAnyH_take (i := 6) (v := ?_) rfl (by kernel_rfl) (by kernel_rfl) (by kernel_rfl) (fun _ _ _ h => h) (Or.inl ⟨by rfl, ?_⟩) (by assumption) ?_; rotate_left; focus (intro w hSw; (try dsimp only at hSw); go_simp; try (with_reducible rfl); done))
        try simp only [List.getElem_toArray, List.getElem_cons_zero, List.getElem_cons_succ, Act.put, List.setIfInBounds_toArray, List.set_cons_zero, List.set_cons_succ]
        first | (refine wpAnyH_take (i := 7) (v := undef) rfl (by kernel_rfl) (by kernel_rfl) (by kernel_rfl) (fun _ _ _ h => h) (Or.inr ⟨by rfl, rfl⟩) (by assumption) ?_) | (refine wpAnyH_take (i := 7) (v := ?_) rfl (by kernel_rfl) (by kernel_rfl) (by kernel_rfl) (fun _ _ _ h => h) (Or.inl ⟨by rfl, ?_⟩) (by assumption) ?_; rotate_left; focus (intro w hSw; (try dsimp only at hSw); go_simp; try (with_reducible rfl); done))
        try simp only [List.getElem_toArray, List.getElem_cons_zero, List.getElem_cons_succ, Act.put, List.setIfInBounds_toArray, List.set_cons_zero, List.set_cons_succ]
        first | (refine wpAnyH_take (i := 8) (v := undef) rfl (by kernel_rfl) (by kernel_rfl) (by kernel_rfl) (fun _ _ _ h => h) (Or.inr ⟨by rfl, rfl⟩) (by assumption) ?_) | (refine wpAnyH_take (i := 8) (v := ?_) rfl (by kernel_rfl) (by kernel_rfl) (by kernel_rfl) (fun _ _ _ h => h) (Or.inl ⟨by rfl, ?_⟩) (by assumption) ?_; rotate_left; focus (intro w hSw; (try dsimp only at hSw); go_simp; try (with_reducible rfl); done))
        try simp only [List.getElem_toArray, List.getElem_cons_zero, List.getElem_cons_succ, Act.put, List.setIfInBounds_toArray, List.set_cons_zero, List.set_cons_succ]
        first | (refine wpAnyH_take (i := 9) (v := undef) rfl (by kernel_rfl) (by kernel_rfl) (by kernel_rfl) (fun _ _ _ h => h) (Or.inr ⟨by rfl, rfl⟩) (by assumption) ?_) | (refine wpAnyH_take (i := 9) (v := ?_) rfl (by kernel_rfl) (by kernel_rfl) (by kernel_rfl) (fun _ _ _ h => h) (Or.inl ⟨by rfl, ?_⟩) (by assumption) ?_; rotate_left; focus (intro w hSw; (try dsimp only at hSw); go_simp; try (with_reducible rfl); done))
        try simp only [List.getElem_toArray, List.getElem_cons_zero, List.getElem_cons_succ, Act.put, List.setIfInBounds_toArray, List.set_cons_zero, List.set_cons_succ]
        first | (refine wpAnyH_take (i := 10) (v := undef) rfl (by kernel_rfl) (by kernel_rfl) (by kernel_rfl) (fun _ _ _ h => h) (Or.inr ⟨by rfl, rfl⟩) (by assumption) ?_) | (refine wpAnyH_take (i := 10) (v := ?_) rfl (by kernel_rfl) (by kernel_rfl) (by kernel_rfl) (fun _ _ _ h => h) (Or.inl ⟨by rfl, ?_⟩) (by assumption) ?_; rotate_left; focus (intro w hSw; (try dsimp only at hSw); go_simp; try (with_reducible rfl); done))
        try simp only [List.getElem_toArray, List.getElem_cons_zero, List.getElem_cons_succ, Act.put, List.setIfInBounds_toArray, List.set_cons_zero, List.set_cons_succ]
        refine wpAnyH_take (i := 11) (v := ?_) rfl (by kernel_rfl) (by kernel_rfl) (by kernel_rfl) (fun _ _ _ h => h) (Or.inl ⟨by rfl, ?_⟩) (by assumption) ?_
        rotate_left; focus (intro w hSw; (try dsimp only at hSw); go_simp; try (with_reducible rfl); done)
        try simp only [List.getElem_toArray, List.getElem_cons_zero, List.getElem_cons_succ, Act.put, List.setIfInBounds_toArray, List.set_cons_zero, List.set_cons_succ]
        refine wpAnyH_ready (rs := [12]) (by kernel_rfl) (by simp) ?_
        refine AllReadyH.cons rfl (fun K hK => ?_) AllReadyH.nil
        go_simp
        refine hK.out _ _ ?_ (fun hHeld => ?_)
        · (try dsimp only); (first | exact q5 | exact q5' | go_keep)
        clear hK K
        try simp only [List.getElem_toArray, List.getElem_cons_zero, List.getElem_cons_succ, Act.put, List.setIfInBounds_toArray, List.set_cons_zero, List.set_cons_succ]
        refine wpAnyH_take (i := 13) (v := ?_) rfl (by kernel_rfl) (by kernel_rfl) (by kernel_rfl) (fun _ _ _ h => h) (Or.inl ⟨by rfl, ?_⟩) (by assumption) ?_
        rotate_left; focus (intro w hSw; (try dsimp only at hSw); go_simp; try (with_reducible rfl); done)
        try simp only [List.getElem_toArray, List.getElem_cons_zero, List.getElem_cons_succ, Act.put, List.setIfInBounds_toArray, List.set_cons_zero, List.set_cons_succ]
        refine wpAnyH_done (by kernel_rfl) ?_ _
        go_wp2
        obtain ⟨r0, r1, r2⟩ := HST2.out.at3 0 rfl
        refine bodyPost_ret (Tr.resT rfl _ _ _ rfl r0 r1 r2) rfl ?_
        refine ⟨fun _ => ⟨-1, 0, none, 0, 0, at_, c + 1, rfl, HST2.out.pick [1] 3 rfl rfl⟩, fun q hq => ?_⟩
        rw [HD.out] at hq
        cases hq
    · have hxb : (x1 == 1) = false := by rw [beq_eq_false_iff_ne]; exact hx
      by_cases hy : ∃ e s', s = e :: s' ∧ e.1 = 1
      · obtain ⟨e, s', rfl, he⟩ := hy
        obtain ⟨hs1, hat1⟩ := Tr.drop_next hs
        have HN := Lib.hid (trNext_yes w0 R tg ng _ al cl E at_ c 1 e s' _ _ F HEV.out hE hs he HST.out)
        have hbe := HBND.out at_ (by omega)
        rw [Gr.drop_at E (0, 0) at_ (by omega)] at hs
        rw [(List.cons.inj hs).1] at hbe
        have HBE := Lib.hid hbe
        have HS1 := Lib.hid hs1
        by_cases hbad : 0 ≤ e.2 ∧ e.2 < l.length ∧ (l.getD e.2.toNat (0, [])).1 = x2
        · have hcond : e.1 = 1 ∧ 0 ≤ e.2 ∧ e.2 < l.length ∧ (l.getD e.2.toNat (0, [])).1 = x2 := ⟨he, hbad⟩
          have HKN := Lib.hid (fun h => Tr.dn_kids_none (chk := true) (G := l) (f := f) (c := c) (x := (x1, x2)) (e := e) (s := s') hx hcond h)
          have HKY := Lib.hid (fun ts e' s2 c' h hm => Tr.dn_kids_yes (chk := true) (G := l) (f := f) (c := c) (x := (x1, x2)) (e := e) (s := s') (ts := ts) (e' := e') (s' := s2) (c' := c') hx hcond h hm)
          have HKM := Lib.hid (fun ts s2 c' h hm => Tr.dn_kids_no (chk := true) (G := l) (f := f) (c := c) (x := (x1, x2)) (e := e) (s := s') (ts := ts) (s' := s2) (c' := c') hx hcond h hm)
          obtain ⟨e1, e2⟩ := e
          simp only at he hbad HBE HKN HKY HKM
          subst he
          obtain ⟨hb0, hb1, hb2⟩ := hbad
          obtain ⟨p, rfl⟩ := Int.eq_ofNat_of_zero_le hb0
          rw [Int.toNat_natCast] at hb2 HKN HKY HKM
          have hlt : p < l.length := by omega
          obtain ⟨rfl, -, -⟩ := P3.out (by omega)
          obtain ⟨vb, c1, c2, hbody, -⟩ := P4.out p hlt
          obtain ⟨ab, bb, ob, cb, rfl, -, b3, b4⟩ := slTwo hbody
          have h8 := HB8.out (l.getD p (0, [])) (by simp [List.getD, List.getElem?_eq_getElem hlt])
          generalize l.getD p (0, []) = pp at *
          obtain ⟨h0, body⟩ := pp
          simp only at c1 c2 hb2 b3 b4 h8 HKN HKY HKM
          subst hb2
          obtain ⟨D, hD⟩ : ∃ D, Tr.dn true l (f + 1) (x1, h0) ((1, (p : Int)) :: s') c = D := ⟨_, rfl⟩
          rw [hD] at HKN HKY HKM ⊢
          obtain ⟨Y, hY⟩ : ∃ Y, Tr.dnK (Tr.dn true l f) body s' c = Y := ⟨_, rfl⟩
          rw [hY] at HKN HKY HKM
          have HY := Lib.hid hY
          have C1 := Lib.hid c1; have C2 := Lib.hid c2; have B3 := Lib.hid b3; have B4 := Lib.hid b4
          have hlt2 : (p : Int) < l.length := by omega
          have hn0' : decide ((p : Int) < 0) = false := decide_eq_false (by omega)
          have hn1' : decide (l.length ≤ p) = false := decide_eq_false (by omega)
          have hne : (h0 != h0) = false := by rw [bne_eq_false_iff_eq]
          simp only [List.length_cons] at hsf
          have hsf2 : s'.length < f := by omega
          clear hs hbe hs1 hcond hbody c1 c2 b3 b4 hD hY hb0 hb1 hsf
          go_enter Try.func115, Try.ntmps115
          go_wp2_with (fail)
          go_at_call 150
          refine HN.out.mono ?_
          rintro e w1 ⟨rfl, hst1⟩
          obtain ⟨q2, q3, q4, q5, q6, q7⟩ := Tr.rdCells hst1 0 rfl
          obtain ⟨x0, x1'⟩ := hst1.at2 2 rfl
          have c1 := bkeep hst1.bel C1.out
          have HSM := Lib.hid (fun n => hst1.drewN n)
          clear hst1 HN HST
          go_wp2
          go_quiet (fail)
          have HST2 := Lib.hid (HSM.out nq)
          clear HSM q2 q3 q4 q5 q6 q7 x0 x1' c1 hne hn0' hn1'
          generalize World.drewN w1 nq = w9 at *
          have HST3 := Lib.hid (HST2.out.alloc #[.int .i64 p, .int .i64 0, .slice none 0 0] 71)
          have c2 := bkeep HST3.out.bel C2.out
          obtain ⟨q2, q3, q4, q5, q6, q7⟩ := Tr.rdCells HST3.out 1 rfl
          go_wp2
          clear c2 q2 q3 q4 q5 q6 q7
          go_loopg [91] body.length (fun gk i wr => ∃ (k : Nat) (L : List Tr.K3) (s2 : List Tr.Ev) (at2 c2 : Nat) (v : Value), k ≤ body.length ∧ gk = body.length - k ∧ i = .int .i64 k ∧ L.length = k ∧ Hid (∀ q ∈ L, Tr.KidOk q) ∧ Hid (E.drop at2 = s2) ∧ at2 ≤ E.length ∧ c2 ≤ at2 ∧ s2.length < f ∧
            Hid ((Tr.dnK (Tr.dn true l f) (body.drop k) s2 c2).map (fun z => (L.map (·.1) ++ z.1, z.2)) = Y) ∧
            St w0 wr (Tr.rd R tg ng (.slice (some ⟨bp, op, none⟩) l.length cp) (.slice al E.length cl) at2 c2 :: aOwn 71 3 v (L.map Tr.kidV) :: aAll (L.map Tr.kidA) :: aCel w9.heap.size 71 #[.int .i64 p, .int .i64 0, v] :: aCel (w.heap.size + 1) 71 #[.int .i64 0, .int .i64 0, .slice none 0 0] :: μ))
          case atStart => exact ⟨0, [], s', at_ + 1, c, .slice none 0 0, by omega, by omega, rfl, rfl, Lib.hid (fun q h => by cases h), HS1, hat1, by omega, hsf2, Lib.hid (by rw [List.drop_zero, HY.out]; cases Y <;> simp), ((HST3.out.nilAll.nilOwn 71 3).pick [3, 0, 1, 2, 4] 6 rfl rfl)⟩
          case round =>
            clear HST3 HST2 HY HS1 hsf2 hat1
            obtain ⟨k, L, s2, at2, c2, v, hk, hgk, rfl, hL0, HOK, HS2, hat2, hc2, hs2f, HY, hst⟩ := hrel
            have HL0 := Lib.hid hL0
            have HGK := Lib.hid hgk
            clear hgk
            obtain ⟨av, cv, rfl⟩ := (hst.ownAt 1 rfl).isLen
            rw [List.length_map, hL0] at hst
            clear hL0
            obtain ⟨o0, o1, o2⟩ := hst.at3 3 rfl
            obtain ⟨r0, r1, r2⟩ := hst.at3 4 rfl
            have f0 := (hst.nth 4 rfl).celFree 0; have f1 := (hst.nth 4 rfl).celFree 1; have f2 := (hst.nth 4 rfl).celFree 2
            by_cases hlt3 : k < body.length
            · obtain ⟨rfl, -, -⟩ := B3.out (by omega)
              obtain ⟨d0, d1, -, -⟩ := B4.out k hlt3
              have hKN := Tr.dnK_none (g := Tr.dn true l f) (s := s2) (c := c2) (A := L.map (·.1)) hlt3
              have hKS := fun q => Tr.dnK_some (g := Tr.dn true l f) (s := s2) (c := c2) (A := L.map (·.1)) hlt3 (q := q)
              have hself := fun q h => Tr.dn_self (chk := true) (G := l) f (body.getD k (0, 0)) s2 c2 q h
              have hcall := fun μ' w' hs' => IH.out (body.getD k (0, 0)) s2 at2 c2 μ' w' HS2.out hat2 hc2 hs2f hs'
              rw [HY.out] at hKN hKS
              generalize body.getD k (0, 0) = y at *
              obtain ⟨y1, y2⟩ := y
              simp only at d0 d1 hcall
              have d0 := bkeep hst.bel d0
              have d1 := bkeep hst.bel d1
              have hlt4 : (k : Int) < body.length := by omega
              have hst2 := hst.alloc #[.int .i64 y1, .int .i64 y2] 96
              obtain ⟨y0', y1'⟩ := hst2.at2 0 rfl
              have HC := Lib.hid (hcall _ _ (hst2.pick [1, 2, 3, 4, 5] 6 rfl rfl))
              have HSELF := Lib.hid hself
              obtain ⟨Q, hQ⟩ : ∃ Q, Tr.dn true l f (y1, y2) s2 c2 = Q := ⟨_, rfl⟩
              rw [hQ] at HC HSELF hKN hKS
              have HKN2 := Lib.hid hKN; have HKS := Lib.hid hKS
              clear hst hst2 hcall hself hQ hKN hKS HY
              cases Q with
              | none =>
                have hY0 := HKN2.out rfl
                subst hY0
                have HD := Lib.hid (HKN.out rfl)
                go_wp2_with (fail)
                go_at_call 115
                refine HC.out.mono ?_
                rintro e w2 ⟨hz, -⟩
                obtain ⟨a, b, ao, n', c', at', tk', rfl, hst3⟩ := hz rfl
                have hst4 := (hst3.pick [4, 0] 5 rfl rfl).alloc #[.int .i64 a, .int .i64 b, .slice ao n' c'] 71
                obtain ⟨r0, r1, r2⟩ := hst4.at3 1 rfl
                have f0 := (hst4.nth 1 rfl).celFree 0; have f1 := (hst4.nth 1 rfl).celFree 1; have f2 := (hst4.nth 1 rfl).celFree 2
                have HST4 := Lib.hid ((((hst4.get2).setCel 0 (.int .i64 0)).setCel 1 (.int .i64 0) |>.setCel 2 (.slice none 0 0)))
                clear hst4
                clear hst3 hz HC
                go_wp2
                obtain ⟨r0, r1, r2⟩ := HST4.out.at3 0 rfl
                refine bodyPost_ret (Tr.resT rfl _ _ _ rfl r0 r1 r2) rfl ?_
                refine ⟨fun _ => ⟨0, 0, none, 0, 0, at', tk', rfl, HST4.out.pick [2] 3 rfl rfl⟩, fun q hq => ?_⟩
                rw [HD.out] at hq
                cases hq
              | some q =>
                have hYq := HKS.out q rfl
                obtain ⟨ac, hc1, hc2', hc3⟩ := HSELF.out q rfl
                have hlen2 : q.2.1.length < s2.length := by rw [hc1, List.length_append]; have := List.length_pos_iff.2 hc2'; omega
                clear HSELF HKN2 HKS hc1 hc2' hc3
                go_wp2_with (fail)
                go_at_call 115
                refine HC.out.mono ?_
                rintro e w2 ⟨-, hz⟩
                obtain ⟨ao, n', c', at', fp, rfl, h1, h2, h3, h4, h5, hst3⟩ := hz q rfl
                have HAT := Lib.hid h1
                have hst4 := hst3.alloc #[.int .i64 q.1.prod, .int .i64 q.1.tok, .slice ao n' c'] 71
                obtain ⟨k0, k1, k2⟩ := hst4.at3 0 rfl
                obtain ⟨o0, o1, o2⟩ := hst4.at3 5 rfl
                have HOKN : Hid (∀ z ∈ L ++ [((q.1, .slice ao n' c', fp) : Tr.K3)], Tr.KidOk z) := Lib.hid (fun q' hq => by
                  rcases List.mem_append.1 hq with hq | hq
                  · exact HOK.out q' hq
                  · rw [List.mem_singleton.1 hq]; exact ⟨h4, h5, ao, n', c', rfl⟩)
                have HST4 := Lib.hid (hst4.pick [3, 1, 2, 4, 5, 6] 7 rfl rfl)
                have HYQ := Lib.hid hYq.symm
                clear hst3 hst4 hz HC hYq h1 h4 h5 HOK d0 d1 y0' y1'
                go_wp2_with (at_builtin; refine St.app1n (o := ⟨some 108, _, _, _, _, _⟩) Tr.treeE ?h1_1 (.tmp 105) (.tmp 107) ?h1_2 ?h1_3 HST4.out (Tr.kidV (q.1, .slice ao n' c', fp)) ?h1_4 (w2.heap.size + 1) 1 ?h1_5 ?h1_6 ?h1_7 ?h1_8 ?h1_9 ?h1_10 ?h1_11; (case h1_1 => rfl); (case h1_2 => rfl); (case h1_6 => simp); (case h1_7 => rfl); (case h1_4 => rfl); (case h1_3 => rfl); (case h1_5 => rfl); (case h1_8 => exact Tr.kidOne (HOKN.out _ (List.mem_append.2 (.inr (.head _))))); (case h1_9 => (rw [List.length_map, HL0.out]; unfold maxLen; omega)); (case h1_10 => (rw [List.length_map, HL0.out]; omega)); intro g' n2 c2' w5 hst5; obtain ⟨o0, o1, o2⟩ := hst5.at3 4 rfl; have fo := (hst5.nth 4 rfl).celFree 2; have HST5 := Lib.hid ((hst5.pick [4, 0, 1, 2, 3, 5] 6 rfl rfl).setCel 2 (.slice (some ⟨g', 0, none⟩) n2 c2')); clear hst5 HST4 k0 k1 k2)
                have HST6 := Lib.hid ((HST5.out.pick [2, 4, 3, 1, 0, 5] 6 rfl rfl).snoc.pick [1, 2, 0, 3, 4] 5 rfl rfl)
                go_roundg (body.length - (k + 1))
                case measure => have := HGK.out; omega
                case rel => exact ⟨k + 1, L ++ [(q.1, .slice ao n' c', fp)], q.2.1, at', q.2.2, .slice (some ⟨g', 0, none⟩) n2 c2', by omega, rfl, by go_num, by rw [List.length_append, HL0.out]; rfl, HOKN, HAT, h2, h3, by omega, by rw [List.map_append]; exact HYQ, by rw [List.map_append, List.map_append]; exact HST6.out⟩
            · obtain rfl : k = body.length := by omega
              have hY := HY.out
              rw [Tr.dnK_end] at hY
              subst hY
              obtain ⟨fp, hstS⟩ := Tr.sealKids (hst.pick [1, 2, 0, 3, 4] 5 rfl rfl) HOK.out (by rw [HL0.out]; omega)
              have HSS := Lib.hid (hstS.pick [1, 0, 2, 3] 4 rfl rfl)
              clear HY HKN hst hstS HOK o0 o1 o2 r0 r1 r2 f0 f1 f2
              by_cases hy3 : ∃ e' s3, s2 = e' :: s3 ∧ e'.1 = 3
              · obtain ⟨e', s3, rfl, he3⟩ := hy3
                have HN := Lib.hid (trNext_yes w0 R tg ng _ al cl E at2 c2 3 e' s3 _ _ F HEV.out hE HS2.out he3 HSS.out)
                have HDR := Lib.hid (Tr.drop_next HS2.out)
                by_cases hm : e'.2 = p
                · have HD := Lib.hid (HKY.out _ e' s3 c2 rfl ⟨he3, hm⟩)
                  obtain ⟨e1', e2'⟩ := e'
                  simp only at he3 hm
                  subst he3 hm
                  go_wp2_with (fail)
                  go_at_call 150
                  refine HN.out.mono ?_
                  rintro e w2 ⟨rfl, hst3⟩
                  obtain ⟨o0, o1, o2⟩ := hst3.at3 2 rfl
                  obtain ⟨r0, r1, r2⟩ := hst3.at3 3 rfl
                  have f0 := (hst3.nth 3 rfl).celFree 0; have f1 := (hst3.nth 3 rfl).celFree 1; have f2 := (hst3.nth 3 rfl).celFree 2
                  have HST4 := Lib.hid (((hst3.pick [3, 0, 1] 4 rfl rfl).setCel 0 (.int .i64 p)).setCel 1 (.int .i64 0) |>.setCel 2 (.slice av body.length cv))
                  clear hst3 HN
                  go_wp2
                  obtain ⟨r0, r1, r2⟩ := HST4.out.at3 0 rfl
                  refine bodyPost_ret (Tr.resT rfl _ _ _ rfl r0 r1 r2) rfl ?_
                  refine ⟨fun h => (by rw [HD.out] at h; cases h), fun q hq => ?_⟩
                  rw [HD.out] at hq
                  cases hq
                  exact ⟨av, body.length, cv, at2 + 1, fp, by simp [Tr.prod, Tr.tok], HDR.out.1, HDR.out.2, by simp only; omega, ⟨by have := HL.out; simp only [Tr.prod]; omega, by have := HL.out; simp only [Tr.prod]; omega⟩, ⟨by simp only [Tr.tok]; omega, by simp only [Tr.tok]; omega⟩, HST4.out.pick [2, 1] 3 rfl rfl⟩
                · have HD := Lib.hid (HKM.out _ (e' :: s3) c2 rfl (fun e2 s4 h => by cases h; exact fun h2 => hm h2.2))
                  obtain ⟨e1', e2'⟩ := e'
                  simp only at he3 hm
                  subst he3
                  have hmb : (e2' == (p : Int)) = false := by rw [beq_eq_false_iff_ne]; exact hm
                  clear hm
                  go_wp2_with (fail)
                  go_at_call 150
                  refine HN.out.mono ?_
                  rintro e w2 ⟨rfl, hst3⟩
                  obtain ⟨o0, o1, o2⟩ := hst3.at3 2 rfl
                  obtain ⟨r0, r1, r2⟩ := hst3.at3 3 rfl
                  have f0 := (hst3.nth 3 rfl).celFree 0; have f1 := (hst3.nth 3 rfl).celFree 1; have f2 := (hst3.nth 3 rfl).celFree 2
                  have HST4 := Lib.hid (((hst3.pick [3, 0, 1] 4 rfl rfl).setCel 0 (.int .i64 p)).setCel 1 (.int .i64 0) |>.setCel 2 (.slice av body.length cv))
                  clear hst3 HN
                  go_wp2
                  obtain ⟨r0, r1, r2⟩ := HST4.out.at3 0 rfl
                  refine bodyPost_ret (Tr.resT rfl _ _ _ rfl r0 r1 r2) rfl ?_
                  refine ⟨fun _ => ⟨p, 0, av, body.length, cv, at2 + 1, c2, rfl, HST4.out.pick [1] 3 rfl rfl⟩, fun q hq => ?_⟩
                  rw [HD.out] at hq
                  cases hq
              · have HD := Lib.hid (HKM.out _ s2 c2 rfl (fun e2 s4 h => fun h2 => hy3 ⟨e2, s4, h, h2.1⟩))
                have HN := Lib.hid (trNext_no w0 R tg ng _ al cl E at2 c2 3 _ _ F HEV.out hE hat2 (fun e2 s4 h => fun h2 => hy3 ⟨e2, s4, by rw [← HS2.out]; exact h, h2⟩) HSS.out)
                clear hy3
                go_wp2_with (fail)
                go_at_call 150
                refine HN.out.mono ?_
                rintro e w2 ⟨rfl, hst3⟩
                obtain ⟨o0, o1, o2⟩ := hst3.at3 2 rfl
                obtain ⟨r0, r1, r2⟩ := hst3.at3 3 rfl
                have f0 := (hst3.nth 3 rfl).celFree 0; have f1 := (hst3.nth 3 rfl).celFree 1; have f2 := (hst3.nth 3 rfl).celFree 2
                have HST4 := Lib.hid (((hst3.pick [3, 0, 1] 4 rfl rfl).setCel 0 (.int .i64 p)).setCel 1 (.int .i64 0) |>.setCel 2 (.slice av body.length cv))
                clear hst3 HN
                go_wp2
                obtain ⟨r0, r1, r2⟩ := HST4.out.at3 0 rfl
                refine bodyPost_ret (Tr.resT rfl _ _ _ rfl r0 r1 r2) rfl ?_
                refine ⟨fun _ => ⟨p, 0, av, body.length, cv, at2, c2, rfl, HST4.out.pick [1] 3 rfl rfl⟩, fun q hq => ?_⟩
                rw [HD.out] at hq
                cases hq
        · have HD := Lib.hid (Tr.dn_bad (chk := true) (G := l) (f := f) (c := c) (x := (x1, x2)) (e := e) (s := s') hx (fun h => hbad h.2))
          obtain ⟨e1, e2⟩ := e
          simp only at he hbad HBE
          subst he
          clear hs hbe hs1
          have HFIN := Lib.hid (fun (W : World) (hs : St w0 W (Tr.rd R tg ng (.slice ap l.length cp) (.slice al E.length cl) (at_ + 1) c :: aCel (w.heap.size + 1) 71 #[.int .i64 0, .int .i64 0, .slice none 0 0] :: aCel w.heap.size 96 #[.int .i64 x1, .int .i64 x2] :: μ)) => (((hs.get2).setCel 0 (.int .i64 0)).setCel 1 (.int .i64 0) |>.setCel 2 (.slice none 0 0)))
          by_cases hn0 : e2 < 0
          · go_enter Try.func115, Try.ntmps115
            go_wp2_with (fail)
            go_at_call 150
            refine HN.out.mono ?_
            rintro e w1 ⟨rfl, hst1⟩
            obtain ⟨q2, q3, q4, q5, q6, q7⟩ := Tr.rdCells hst1 0 rfl
            obtain ⟨x0, x1'⟩ := hst1.at2 2 rfl
            have HSN := Lib.hid (fun n => HFIN.out _ (hst1.drewN n))
            have HSM := Lib.hid (fun n => hst1.drewN n)
            clear hst1 HN HST HFIN
            go_wp2
            go_quiet (fail)
            obtain ⟨r0, r1, r2⟩ := (HSM.out nq).at3 1 rfl
            have f0 := ((HSM.out nq).nth 1 rfl).celFree 0; have f1 := ((HSM.out nq).nth 1 rfl).celFree 1; have f2 := ((HSM.out nq).nth 1 rfl).celFree 2
            have HST2 := Lib.hid (HSN.out nq)
            clear HSN HSM q2 q3 q4 q5 q6 q7 x0 x1'
            generalize World.drewN w1 nq = w9 at *
            go_wp2
            obtain ⟨r0, r1, r2⟩ := HST2.out.at3 0 rfl
            refine bodyPost_ret (Tr.resT rfl _ _ _ rfl r0 r1 r2) rfl ?_
            refine ⟨fun _ => ⟨0, 0, none, 0, 0, at_ + 1, c, rfl, HST2.out.pick [1] 3 rfl rfl⟩, fun q hq => ?_⟩
            rw [HD.out] at hq
            cases hq
          have hn0' : decide (e2 < 0) = false := decide_eq_false hn0
          obtain ⟨p, rfl⟩ := Int.eq_ofNat_of_zero_le (by omega : 0 ≤ e2)
          by_cases hn1 : (l.length : Int) ≤ p
          · go_enter Try.func115, Try.ntmps115
            go_wp2_with (fail)
            go_at_call 150
            refine HN.out.mono ?_
            rintro e w1 ⟨rfl, hst1⟩
            obtain ⟨q2, q3, q4, q5, q6, q7⟩ := Tr.rdCells hst1 0 rfl
            obtain ⟨x0, x1'⟩ := hst1.at2 2 rfl
            have HSN := Lib.hid (fun n => HFIN.out _ (hst1.drewN n))
            have HSM := Lib.hid (fun n => hst1.drewN n)
            clear hst1 HN HST HFIN
            go_wp2
            go_quiet (fail)
            obtain ⟨r0, r1, r2⟩ := (HSM.out nq).at3 1 rfl
            have f0 := ((HSM.out nq).nth 1 rfl).celFree 0; have f1 := ((HSM.out nq).nth 1 rfl).celFree 1; have f2 := ((HSM.out nq).nth 1 rfl).celFree 2
            have HST2 := Lib.hid (HSN.out nq)
            clear HSN HSM q2 q3 q4 q5 q6 q7 x0 x1'
            generalize World.drewN w1 nq = w9 at *
            go_wp2
            obtain ⟨r0, r1, r2⟩ := HST2.out.at3 0 rfl
            refine bodyPost_ret (Tr.resT rfl _ _ _ rfl r0 r1 r2) rfl ?_
            refine ⟨fun _ => ⟨0, 0, none, 0, 0, at_ + 1, c, rfl, HST2.out.pick [1] 3 rfl rfl⟩, fun q hq => ?_⟩
            rw [HD.out] at hq
            cases hq
          have hlt : p < l.length := by omega
          have hn1' : decide (l.length ≤ p) = false := decide_eq_false (by omega)
          obtain ⟨rfl, -, -⟩ := P3.out (by omega)
          obtain ⟨vb, c1, c2, -, -⟩ := P4.out p hlt
          rw [Int.toNat_natCast] at hbad
          generalize (l.getD p (0, [])).1 = h0 at *
          have hne : (h0 != x2) = true := by rw [bne_iff_ne]; intro h; exact hbad ⟨by omega, by omega, h⟩
          have hlt2 : (p : Int) < l.length := by omega
          have C1 := Lib.hid c1
          clear c1 c2 hbad
          go_enter Try.func115, Try.ntmps115
          go_wp2_with (fail)
          go_at_call 150
          refine HN.out.mono ?_
          rintro e w1 ⟨rfl, hst1⟩
          obtain ⟨q2, q3, q4, q5, q6, q7⟩ := Tr.rdCells hst1 0 rfl
          obtain ⟨x0, x1'⟩ := hst1.at2 2 rfl
          have c1 := bkeep hst1.bel C1.out
          have HSN := Lib.hid (fun n => HFIN.out _ (hst1.drewN n))
          have HSM := Lib.hid (fun n => hst1.drewN n)
          clear hst1 HN HST HFIN
          go_wp2
          go_quiet (fail)
          obtain ⟨r0, r1, r2⟩ := (HSM.out nq).at3 1 rfl
          have f0 := ((HSM.out nq).nth 1 rfl).celFree 0; have f1 := ((HSM.out nq).nth 1 rfl).celFree 1; have f2 := ((HSM.out nq).nth 1 rfl).celFree 2
          have HST2 := Lib.hid (HSN.out nq)
          clear HSN HSM q2 q3 q4 q5 q6 q7 x0 x1'
          generalize World.drewN w1 nq = w9 at *
          go_wp2
          obtain ⟨r0, r1, r2⟩ := HST2.out.at3 0 rfl
          refine bodyPost_ret (Tr.resT rfl _ _ _ rfl r0 r1 r2) rfl ?_
          refine ⟨fun _ => ⟨0, 0, none, 0, 0, at_ + 1, c, rfl, HST2.out.pick [1] 3 rfl rfl⟩, fun q hq => ?_⟩
          rw [HD.out] at hq
          cases hq
      · have hno : ∀ e s', E.drop at_ = e :: s' → e.1 ≠ 1 := fun e s' h => fun h2 => hy ⟨e, s', by rw [← hs]; exact h, h2⟩
        have HD : Hid (Tr.dn true l (f + 1) (x1, x2) s c = none) := Lib.hid (by
          cases s with
          | nil => rfl
          | cons e s' => exact Tr.dn_bad hx (fun h => hy ⟨e, s', rfl, h.1⟩))
        have HN := Lib.hid (trNext_no w0 R tg ng _ al cl E at_ c 1 _ _ F HEV.out hE hat hno HST.out)
        have HFIN := Lib.hid (fun (W : World) (hs : St w0 W (Tr.rd R tg ng (.slice ap l.length cp) (.slice al E.length cl) at_ c :: aCel (w.heap.size + 1) 71 #[.int .i64 0, .int .i64 0, .slice none 0 0] :: aCel w.heap.size 96 #[.int .i64 x1, .int .i64 x2] :: μ)) => (((hs.get2).setCel 0 (.int .i64 0)).setCel 1 (.int .i64 0) |>.setCel 2 (.slice none 0 0)))
        clear hs hy hno
        go_enter Try.func115, Try.ntmps115
        go_wp2_with (fail)
        go_at_call 150
        refine HN.out.mono ?_
        rintro e w1 ⟨rfl, hst1⟩
        obtain ⟨q2, q3, q4, q5, q6, q7⟩ := Tr.rdCells hst1 0 rfl
        obtain ⟨x0, x1'⟩ := hst1.at2 2 rfl
        have HSN := Lib.hid (fun n => HFIN.out _ (hst1.drewN n))
        have HSM := Lib.hid (fun n => hst1.drewN n)
        clear hst1 HN HST HFIN
        go_wp2
        go_quiet (fail)
        obtain ⟨r0, r1, r2⟩ := (HSM.out nq).at3 1 rfl
        have f0 := ((HSM.out nq).nth 1 rfl).celFree 0; have f1 := ((HSM.out nq).nth 1 rfl).celFree 1; have f2 := ((HSM.out nq).nth 1 rfl).celFree 2
        have HST2 := Lib.hid (HSN.out nq)
        clear HSN HSM q2 q3 q4 q5 q6 q7 x0 x1'
        generalize World.drewN w1 nq = w9 at *
        go_wp2
        obtain ⟨r0, r1, r2⟩ := HST2.out.at3 0 rfl
        refine bodyPost_ret (Tr.resT rfl _ _ _ rfl r0 r1 r2) rfl ?_
        refine ⟨fun _ => ⟨0, 0, none, 0, 0, at_, c, rfl, HST2.out.pick [1] 3 rfl rfl⟩, fun q hq => ?_⟩
        rw [HD.out] at hq
        cases hq
end Go.Proofs.Ytldapomcjfkeeaa
