/-
  ofUp of the reference.
-/
import Derived.Test.YtldapomcjfkeeaaTrMk
import Derived.Test.YtldapomcjfkeeaaTrPt
namespace Go.Proofs.Ytldapomcjfkeeaa
set_option linter.unusedVariables false
set_option linter.unusedSimpArgs false
open Go.ChangeShapes Go.WideShapes Go.ChangeAt Go.RowKit

namespace Tr
def RuPost (w : World) (E : List Ev) (D : Option (Tr × List Ev)) (e : Ending) (w' : World) : Prop :=
  (D = none → ∃ (a b : Int) (ao : Option Addr) (n c : Nat), e = .returned (.tuple #[.agg #[.int .i64 a, .int .i64 b, .slice ao n c], .int .i64 (-1)]) ∧ St w w' []) ∧
  (∀ q, D = some q → ∃ (ao : Option Addr) (n c tw' : Nat) (fp : List Nat), e = .returned (.tuple #[.agg #[.int .i64 q.1.prod, .int .i64 q.1.tok, .slice ao n c], .int .i64 (tw' : Int)]) ∧ (E.take tw').reverse = q.2 ∧ tw' ≤ E.length ∧ In64 q.1.prod ∧ In64 q.1.tok ∧
    St w w' [aEnc (any.sl 40) fp [.slice ao n c] q.1.kids])
section
variable {G : Gm} {f : Nat} {x e : Int × Int} {s : List Ev}
theorem ru_leaf_yes (hx : x.1 = 1) (he : e.1 = 2) : ru G (f + 1) x (e :: s) = some (.mk (-1) e.2 [], s) := by rw [ru, if_pos hx, if_pos he]
theorem ru_leaf_no (hx : x.1 = 1) (he : e.1 ≠ 2) : ru G (f + 1) x (e :: s) = none := by rw [ru, if_pos hx, if_neg he]
theorem ru_bad (hx : x.1 ≠ 1) (hc : ¬ (e.1 = 4 ∧ 0 ≤ e.2 ∧ e.2 < G.length ∧ (G.getD e.2.toNat (0, [])).1 = x.2)) : ru G (f + 1) x (e :: s) = none := by rw [ru, if_neg hx, if_neg hc]
theorem ru_good (hx : x.1 ≠ 1) (hc : e.1 = 4 ∧ 0 ≤ e.2 ∧ e.2 < G.length ∧ (G.getD e.2.toNat (0, [])).1 = x.2) : ru G (f + 1) x (e :: s) = (ruK (ru G f) (G.getD e.2.toNat (0, [])).2.reverse s).map (fun r => (.mk e.2 0 r.1, r.2)) := by
  rw [ru, if_neg hx, if_pos hc]
  cases ruK (ru G f) (G.getD e.2.toNat (0, [])).2.reverse s <;> rfl
variable {g : (Int × Int) → List Ev → Option (Tr × List Ev)} {b : List (Int × Int)} {m : Nat} {A : List Tr}
theorem take_rev (hm : m < b.length) : (b.take (m + 1)).reverse = b.getD m (0, 0) :: (b.take m).reverse := by
  rw [List.take_succ_eq_append_getElem hm, List.reverse_append]
  simp [List.getD, List.getElem?_eq_getElem hm]
theorem ruK_none (hm : m < b.length) (h : g (b.getD m (0, 0)) s = none) : (ruK g (b.take (m + 1)).reverse s).map (fun z => (z.1 ++ A, z.2)) = none := by
  rw [take_rev hm, ruK, h]; rfl
theorem ruK_some (hm : m < b.length) {q : Tr × List Ev} (h : g (b.getD m (0, 0)) s = some q) : (ruK g (b.take (m + 1)).reverse s).map (fun z => (z.1 ++ A, z.2)) = (ruK g (b.take m).reverse q.2).map (fun z => (z.1 ++ q.1 :: A, z.2)) := by
  rw [take_rev hm, ruK, h]
  simp only
  cases ruK g (b.take m).reverse q.2 with
  | none => rfl
  | some r => simp
theorem ownFree {w : World} {B : Nat} {ty : TypeId} {size k n cap : Nat} {xs : List Value} (h : Own w B ty size (.slice (some ⟨k, 0, Option.none⟩) n cap) xs) (i : Nat) : w.frozen? ⟨k, i, Option.none⟩ = false := by
  unfold Own at h
  rcases h.2 with ⟨h2, _⟩ | ⟨g', cap', cur, hv, hB, hg, hn, hc, hcs, htk⟩
  · cases h2
  · simp only [Value.slice.injEq, Option.some.injEq, Addr.mk.injEq] at hv
    obtain ⟨⟨rfl, _⟩, rfl, rfl⟩ := hv
    exact frozen_of_row _ _ _ _ _ hg
end
end Tr

set_option maxRecDepth 100000 in
set_option maxHeartbeats 16000000 in
theorem rUp_any (tg ng : Int) (vp : Value) (l : List (Int × List (Int × Int))) (hl : l.length ≤ 40) (hb8 : ∀ p ∈ l, p.2.length ≤ 8) (hG : ∀ p ∈ l, 0 ≤ p.1) (al : Option Addr) (cl : Nat) (E : List Tr.Ev) (hE : E.length ≤ 2000) :
    ∀ (f : Nat) (x : Int × Int) (tw : Nat) (w : World) (F : Nat → Prop), (∀ b, F b → b < w.heap.size) → Enc.prods.R F w [vp] l → (Enc.two.sl 16).R F w [.slice al E.length cl] E → tw ≤ E.length → tw < f →
      Calls Try.prog 119 #[.agg #[.int .i64 tg, .int .i64 ng, vp], .slice al E.length cl, .agg #[.int .i64 x.1, .int .i64 x.2], .int .i64 (tw : Int)] w (Tr.RuPost w E (Tr.ru l f x (E.take tw).reverse)) := by
  have HL := Lib.hid hl; have HB8 := Lib.hid hb8; have HG := Lib.hid hG
  clear hl hb8 hG
  intro f
  induction f with
  | zero => intro x tw w F _ _ _ _ h; omega
  | succ f ih =>
    intro x tw w F hF hp hev hto hsf
    have HF := Lib.hid hF; have HP := Lib.hid hp; have HEV := Lib.hid hev; have IH := Lib.hid ih
    obtain ⟨ap, bp, op, cp, rfl, -, p3, p4⟩ := slProds hp
    obtain ⟨_, bl, ol, _, hv, -, l3, l4⟩ := slTwo hev
    simp only [Value.slice.injEq, true_and] at hv
    obtain ⟨rfl, rfl⟩ := hv
    obtain ⟨x1, x2⟩ := x
    have P3 := Lib.hid p3; have P4 := Lib.hid p4; have L3 := Lib.hid l3; have L4 := Lib.hid l4
    have HBASE := Lib.hid (fun (a b : Int) => show St w _ _ from (((St.init w).alloc #[.int .i64 tg, .int .i64 ng, .slice ap l.length cp] 68).alloc #[.int .i64 x1, .int .i64 x2] 96).alloc #[.int .i64 a, .int .i64 b, .slice none 0 0] 71)
    simp only [World.size_alloc] at HBASE
    clear ih hF hp hev p3 p4 l3 l4
    rcases Nat.eq_zero_or_pos tw with rfl | hpos
    · go_enter Try.func119, Try.ntmps119
      go_wp2
      obtain ⟨r0, r1, r2⟩ := (HBASE.out 0 0).at3 0 rfl
      refine bodyPost_ret (Tr.resT rfl _ _ _ rfl r0 r1 r2) rfl ?_
      exact ⟨fun _ => ⟨0, 0, none, 0, 0, rfl, (HBASE.out 0 0).pick [] 3 rfl rfl⟩, fun q hq => by cases hq⟩
    · obtain ⟨at_, rfl⟩ : ∃ a, tw = a + 1 := ⟨tw - 1, by omega⟩
      have hlt : at_ < E.length := by omega
      obtain ⟨rfl, -, -⟩ := L3.out (by omega)
      obtain ⟨d0, d1, hi0, hi1⟩ := L4.out at_ hlt
      rw [Tr.take_rev hlt]
      generalize E.getD at_ (0, 0) = e at *
      obtain ⟨e1, e2⟩ := e
      simp only at d0 d1 hi0 hi1
      have HIB := Lib.hid hi1
      have HLB := Lib.hid (fun (a b : Int) => (HBASE.out a b).alloc #[.int .i64 e1, .int .i64 e2] 81)
      simp only [World.size_alloc] at HLB
      have hz0 : (((at_ + 1 : Nat) : Int) == 0) = false := by rw [beq_eq_false_iff_ne]; omega
      have hz1 : ¬ ((at_ : Int) + 1 = 0) := by omega
      have hz2 : ((at_ : Int) + 1 == 0) = false := by rw [beq_eq_false_iff_ne]; omega
      have hsub : ((at_ + 1 : Nat) : Int) - 1 = (at_ : Int) := by omega
      have hlt2 : (at_ : Int) < E.length := by omega
      have d0 := bkeep (HBASE.out 0 0).bel d0
      have d1 := bkeep (HBASE.out 0 0).bel d1
      by_cases hx : x1 = 1
      · subst hx
        by_cases hk : e1 = 2
        · subst hk
          have HD := Lib.hid (Tr.ru_leaf_yes (G := l) (f := f) (x := (1, x2)) (e := (2, e2)) (s := (E.take at_).reverse) rfl rfl)
          go_enter Try.func119, Try.ntmps119
          go_wp2
          obtain ⟨r0, r1, r2⟩ := (HLB.out (-1) e2).at3 1 rfl
          refine bodyPost_ret (Tr.resT rfl _ _ _ rfl r0 r1 r2) rfl ?_
          refine ⟨fun h => (by rw [HD.out] at h; cases h), fun q hq => ?_⟩
          rw [HD.out] at hq
          cases hq
          exact ⟨none, 0, 0, at_, [], rfl, rfl, by omega, ⟨by show (-9223372036854775808 : Int) ≤ -1; decide, by show (-1 : Int) ≤ 9223372036854775807; decide⟩, HIB.out, Tr.nilEnc ((HLB.out (-1) e2).pick [] 4 rfl rfl)⟩
        · have HD := Lib.hid (Tr.ru_leaf_no (G := l) (f := f) (x := (1, x2)) (e := (e1, e2)) (s := (E.take at_).reverse) rfl hk)
          have hk2 : (e1 != 2) = true := by simpa using hk
          go_enter Try.func119, Try.ntmps119
          go_wp2
          obtain ⟨r0, r1, r2⟩ := (HLB.out 0 0).at3 1 rfl
          refine bodyPost_ret (Tr.resT rfl _ _ _ rfl r0 r1 r2) rfl ?_
          refine ⟨fun _ => ⟨0, 0, none, 0, 0, rfl, (HLB.out 0 0).pick [] 4 rfl rfl⟩, fun q hq => ?_⟩
          rw [HD.out] at hq
          cases hq
      · have hxb : (x1 == 1) = false := by rw [beq_eq_false_iff_ne]; exact hx
        have HST := Lib.hid (HLB.out 0 0)
        obtain ⟨y0, y1⟩ := HST.out.at2 0 rfl
        obtain ⟨x0, x1'⟩ := HST.out.at2 2 rfl
        obtain ⟨g0, g1, g2⟩ := HST.out.at3 3 rfl
        have HSN := Lib.hid (fun n => HST.out.drewN n)
        by_cases hgood : e1 = 4 ∧ 0 ≤ e2 ∧ e2 < l.length ∧ (l.getD e2.toNat (0, [])).1 = x2
        · skip
          have hgd := Tr.ru_good (G := l) (f := f) (x := (x1, x2)) (e := (e1, e2)) (s := (E.take at_).reverse) hx hgood
          obtain ⟨rfl, hb0, hb1, hb2⟩ := hgood
          obtain ⟨p, rfl⟩ := Int.eq_ofNat_of_zero_le hb0
          simp only at hgd
          rw [Int.toNat_natCast] at hb2 hgd
          have hlt3 : p < l.length := by omega
          obtain ⟨rfl, -, -⟩ := P3.out (by omega)
          obtain ⟨vb, c1, c2, hbody, -⟩ := P4.out p hlt3
          obtain ⟨ab, bb, ob, cb, rfl, -, b3, b4⟩ := slTwo hbody
          have h8 := HB8.out (l.getD p (0, [])) (by simp [List.getD, List.getElem?_eq_getElem hlt3])
          generalize l.getD p (0, []) = pp at *
          obtain ⟨h0, body⟩ := pp
          simp only at c1 c2 hb2 b3 b4 h8 hgd
          subst hb2
          obtain ⟨Y, hY⟩ : ∃ Y, Tr.ruK (Tr.ru l f) body.reverse (E.take at_).reverse = Y := ⟨_, rfl⟩
          rw [hY] at hgd
          rw [hgd]
          have HY := Lib.hid hY
          have C2 := Lib.hid c2; have B3 := Lib.hid b3; have B4 := Lib.hid b4
          have hlt4 : (p : Int) < l.length := by omega
          have hn0' : decide ((p : Int) < 0) = false := decide_eq_false (by omega)
          have hn1' : decide (l.length ≤ p) = false := decide_eq_false (by omega)
          have hne : (h0 != h0) = false := by rw [bne_eq_false_iff_eq]
          have c1 := bkeep HST.out.bel c1
          clear hbody c2 b3 b4 hY hgd hb0 hb1 hi0 hi1
          go_enter Try.func119, Try.ntmps119
          go_wp2
          go_quiet (fail)
          have HS9 := Lib.hid (HSN.out nq)
          clear HSN y0 y1 g0 g1 g2 x0 x1' d0 d1 c1 hne hn0' hn1' HST HBASE HLB
          generalize World.drewN _ _ = w9 at *
          obtain ⟨y0, y1⟩ := HS9.out.at2 0 rfl
          obtain ⟨g0, g1, g2⟩ := HS9.out.at3 3 rfl
          have c2 := bkeep HS9.out.bel C2.out
          go_wp2_with (refine Tr.makeKids (o := ⟨some 72, _, _, _, _, _⟩) ?m1 (.tmp 71) ?m2 HS9.out body.length ?m3 (by omega) ?m4; (case m1 => rfl); (case m2 => rfl); (case m3 => rfl); intro w10 hst10; have HS10 := Lib.hid hst10; clear hst10 y0 y1 g0 g1 g2 c2)
          go_loopg [3, 13] body.length (fun gk a i wr => ∃ (m : Nat) (R : List Tr.K3) (tw2 : Nat) (z : Int), m ≤ body.length ∧ gk = m ∧ i = .int .i64 z ∧ z = (m : Int) - 1 ∧ a = .int .i64 tw2 ∧ Hid (m + R.length = body.length) ∧ Hid (∀ q ∈ R, Tr.KidOk q) ∧ tw2 ≤ E.length ∧ tw2 < f ∧
            Hid ((Tr.ruK (Tr.ru l f) (body.take m).reverse (E.take tw2).reverse).map (fun z => (z.1 ++ R.map (·.1), z.2)) = Y) ∧
            St w wr (aOwn 71 3 (.slice (some ⟨w9.heap.size, 0, none⟩) body.length body.length) ((List.replicate m Tr.kz ++ R).map Tr.kidV) :: aAll (R.map Tr.kidA) :: aCel (w.heap.size + 1 + 1 + 1) 81 #[.int .i64 4, .int .i64 p] :: aCel (w.heap.size + 1 + 1) 71 #[.int .i64 0, .int .i64 0, .slice none 0 0] :: aCel w.heap.size 68 #[.int .i64 tg, .int .i64 ng, .slice (some ⟨bp, op, none⟩) l.length cp] :: []))
          case atStart => exact ⟨body.length, [], at_, _, Nat.le_refl _, rfl, rfl, by omega, by go_num, Lib.hid rfl, Lib.hid (fun q h => by cases h), by omega, by omega, Lib.hid (by rw [List.take_length, HY.out]; cases Y <;> simp), by rw [List.append_nil]; exact (HS10.out.nilAll.pick [1, 0, 2, 3, 5] 6 rfl rfl)⟩
          case round =>
            clear HS10 HS9 HY
            obtain ⟨m, R, tw2, z, hm, hgk, rfl, hz, rfl, HMR, HOK, htw2, htwf, HY, hst⟩ := hrel
            have HGK := Lib.hid hgk
            have HZ := Lib.hid hz
            clear hgk
            obtain ⟨y0, y1⟩ := hst.at2 2 rfl
            obtain ⟨r0, r1, r2⟩ := hst.at3 3 rfl
            obtain ⟨g0, g1, g2⟩ := hst.at3 4 rfl
            rcases m with _ | m
            · have hzn : ¬ 0 ≤ z := by omega
              clear hz HZ
              have hY := HY.out
              rw [List.take_zero, List.reverse_nil, Tr.ruK] at hY
              subst hY
              rw [List.replicate_zero, List.nil_append] at hst
              obtain ⟨fp, hstS⟩ := Tr.sealKids hst HOK.out (by have := HMR.out; omega)
              have f0 := (hst.nth 3 rfl).celFree 0; have f1 := (hst.nth 3 rfl).celFree 1; have f2 := (hst.nth 3 rfl).celFree 2
              have HFIN := Lib.hid (((hstS.pick [2, 0] 4 rfl rfl).setCel 0 (.int .i64 p)).setCel 1 (.int .i64 0) |>.setCel 2 (.slice (some ⟨w9.heap.size, 0, none⟩) body.length body.length))
              clear hst hstS HY HOK
              go_wp2
              obtain ⟨r0, r1, r2⟩ := HFIN.out.at3 0 rfl
              refine bodyPost_ret (Tr.resT rfl _ _ _ rfl r0 r1 r2) rfl ?_
              refine ⟨(fun h => by cases h), fun q hq => ?_⟩
              cases hq
              exact ⟨some ⟨w9.heap.size, 0, none⟩, body.length, body.length, tw2, fp, rfl, rfl, htw2, ⟨by have := HL.out; simp only [Tr.prod]; omega, by have := HL.out; simp only [Tr.prod]; omega⟩, ⟨by simp only [Tr.tok]; omega, by simp only [Tr.tok]; omega⟩, by simpa [Tr.kids] using HFIN.out.pick [1] 2 rfl rfl⟩
            · obtain rfl : z = (m : Int) := by omega
              have hmb : m < body.length := by omega
              obtain ⟨rfl, -, -⟩ := B3.out (by omega)
              obtain ⟨d0, d1, -, -⟩ := B4.out m hmb
              have hKN := Tr.ruK_none (g := Tr.ru l f) (s := (E.take tw2).reverse) (A := R.map (·.1)) hmb
              have hKS := fun q => Tr.ruK_some (g := Tr.ru l f) (s := (E.take tw2).reverse) (A := R.map (·.1)) hmb (q := q)
              have hself := fun t r h => (Tr.ru_sound HG.out f (body.getD m (0, 0)) (E.take tw2).reverse t r h).1
              have hcall := fun W (hW : Below w.heap.size w W) => IH.out (body.getD m (0, 0)) tw2 W F (fun b hb => Nat.lt_of_lt_of_le (HF.out b hb) hW.size) (Enc.mono _ HP.out (fun _ h => h) (fun b hb => hW.block b (HF.out b hb))) (Enc.mono _ HEV.out (fun _ h => h) (fun b hb => hW.block b (HF.out b hb))) htw2 htwf
              rw [HY.out] at hKN hKS
              generalize body.getD m (0, 0) = y at *
              obtain ⟨u1, u2⟩ := y
              simp only at d0 d1 hcall
              have DD0 := Lib.hid d0; have DD1 := Lib.hid d1
              have d0 := bkeep hst.bel d0
              have d1 := bkeep hst.bel d1
              have hmb2 : (m : Int) < body.length := by omega
              have HC := Lib.hid (hcall _ hst.drew.bel)
              have HSELF := Lib.hid hself
              have HST2 := Lib.hid hst.drew
              obtain ⟨Q, hQ⟩ : ∃ Q, Tr.ru l f (u1, u2) (E.take tw2).reverse = Q := ⟨_, rfl⟩
              rw [hQ] at HC HSELF hKN hKS
              have HKN2 := Lib.hid hKN; have HKS := Lib.hid hKS
              have hml : m < (List.replicate (m + 1) Tr.kz ++ R).length := by simp; omega
              have HML := Lib.hid hml
              clear hst hcall hself hQ hKN hKS HY hml hz HZ
              cases Q with
              | none =>
                have hY0 := HKN2.out rfl
                subst hY0
                go_wp2
                refine wp_region_held_drew (S := (fun w' => w'.cell? ⟨w.heap.size, 0, none⟩ = some (.int .i64 tg) ∧ w'.cell? ⟨w.heap.size, 1, none⟩ = some (.int .i64 ng) ∧ w'.cell? ⟨w.heap.size, 2, none⟩ = some (.slice (some ⟨bp, op, none⟩) l.length cp) ∧ w'.cell? ⟨bb, ob + m * 2, none⟩ = some (.int .i64 u1) ∧ w'.cell? ⟨bb, ob + m * 2 + 1, none⟩ = some (.int .i64 u2))) (by kernel_rfl) ?_ (fun hHeld => ?_)
                · (try dsimp only); (first | exact ⟨g0, g1, g2, d0, d1⟩ | exact ⟨g0'', g1'', g2'', d0', d1'⟩ | go_keep)

                refine wpAnyH_take (i := 0) (v := ?_) rfl (by kernel_rfl) (by kernel_rfl) (by kernel_rfl) (fun _ _ _ h => h) (Or.inl ⟨by rfl, ?_⟩) (by assumption) ?_
                rotate_left; focus (intro w hSw; (try dsimp only at hSw); go_simp; try (with_reducible rfl); done)
                try simp only [List.getElem_toArray, List.getElem_cons_zero, List.getElem_cons_succ, Act.put, List.setIfInBounds_toArray, List.set_cons_zero, List.set_cons_succ]
                refine wpAnyH_take (i := 1) (v := ?_) rfl (by kernel_rfl) (by kernel_rfl) (by kernel_rfl) (fun _ _ _ h => h) (Or.inl ⟨by rfl, ?_⟩) (by assumption) ?_
                rotate_left; focus (intro w hSw; (try dsimp only at hSw); go_simp; try (with_reducible rfl); done)
                try simp only [List.getElem_toArray, List.getElem_cons_zero, List.getElem_cons_succ, Act.put, List.setIfInBounds_toArray, List.set_cons_zero, List.set_cons_succ]
                refine wpAnyH_take (i := 2) (v := ?_) rfl (by kernel_rfl) (by kernel_rfl) (by kernel_rfl) (fun _ _ _ h => h) (Or.inl ⟨by rfl, ?_⟩) (by assumption) ?_
                rotate_left; focus (intro w hSw; (try dsimp only at hSw); go_simp; try (with_reducible rfl); done)
                try simp only [List.getElem_toArray, List.getElem_cons_zero, List.getElem_cons_succ, Act.put, List.setIfInBounds_toArray, List.set_cons_zero, List.set_cons_succ]
                refine wpAnyH_take (i := 3) (v := ?_) rfl (by kernel_rfl) (by kernel_rfl) (by kernel_rfl) (fun _ _ _ h => h) (Or.inl ⟨by rfl, ?_⟩) (by assumption) ?_
                rotate_left; focus (intro w hSw; (try dsimp only at hSw); go_simp; try (with_reducible rfl); done)
                try simp only [List.getElem_toArray, List.getElem_cons_zero, List.getElem_cons_succ, Act.put, List.setIfInBounds_toArray, List.set_cons_zero, List.set_cons_succ]
                refine wpAnyH_take (i := 4) (v := ?_) rfl (by kernel_rfl) (by kernel_rfl) (by kernel_rfl) (fun _ _ _ h => h) (Or.inl ⟨by rfl, ?_⟩) (by assumption) ?_
                rotate_left; focus (intro w hSw; (try dsimp only at hSw); go_simp; try (with_reducible rfl); done)
                try simp only [List.getElem_toArray, List.getElem_cons_zero, List.getElem_cons_succ, Act.put, List.setIfInBounds_toArray, List.set_cons_zero, List.set_cons_succ]
                refine wpAnyH_take (i := 5) (v := ?_) rfl (by kernel_rfl) (by kernel_rfl) (by kernel_rfl) (fun _ _ _ h => h) (Or.inl ⟨by rfl, ?_⟩) (by assumption) ?_
                rotate_left; focus (intro w hSw; (try dsimp only at hSw); go_simp; try (with_reducible rfl); done)
                try simp only [List.getElem_toArray, List.getElem_cons_zero, List.getElem_cons_succ, Act.put, List.setIfInBounds_toArray, List.set_cons_zero, List.set_cons_succ]
                refine wpAnyH_take (i := 6) (v := ?_) rfl (by kernel_rfl) (by kernel_rfl) (by kernel_rfl) (fun _ _ _ h => h) (Or.inl ⟨by rfl, ?_⟩) (by assumption) ?_
                rotate_left; focus (intro w hSw; (try dsimp only at hSw); go_simp; try (with_reducible rfl); done)
                try simp only [List.getElem_toArray, List.getElem_cons_zero, List.getElem_cons_succ, Act.put, List.setIfInBounds_toArray, List.set_cons_zero, List.set_cons_succ]
                refine wpAnyH_take (i := 7) (v := ?_) rfl (by kernel_rfl) (by kernel_rfl) (by kernel_rfl) (fun _ _ _ h => h) (Or.inl ⟨by rfl, ?_⟩) (by assumption) ?_
                rotate_left; focus (intro w hSw; (try dsimp only at hSw); go_simp; try (with_reducible rfl); done)
                try simp only [List.getElem_toArray, List.getElem_cons_zero, List.getElem_cons_succ, Act.put, List.setIfInBounds_toArray, List.set_cons_zero, List.set_cons_succ]
                refine wpAnyH_take (i := 8) (v := ?_) rfl (by kernel_rfl) (by kernel_rfl) (by kernel_rfl) (fun _ _ _ h => h) (Or.inl ⟨by rfl, ?_⟩) (by assumption) ?_
                rotate_left; focus (intro w hSw; (try dsimp only at hSw); go_simp; try (with_reducible rfl); done)
                try simp only [List.getElem_toArray, List.getElem_cons_zero, List.getElem_cons_succ, Act.put, List.setIfInBounds_toArray, List.set_cons_zero, List.set_cons_succ]
                refine wpAnyH_ready (rs := [9]) (by kernel_rfl) (by simp) ?_
                refine AllReadyH.cons rfl (fun K hK => ?_) AllReadyH.nil
                go_simp
                (go_at_call 119; refine HC.out.mono ?_; rintro e w8 ⟨hz, -⟩; obtain ⟨a, b, ao, n', c', rfl, hst7⟩ := hz rfl; have hst8 := HST2.out.joined hst7; simp only [List.nil_append] at hst8; clear hst7 hz; obtain ⟨g0, g1, g2⟩ := hst8.at3 4 rfl; have d0 := bkeep hst8.bel DD0.out; have d1 := bkeep hst8.bel DD1.out; have k0 := Tr.cellsN hst8 (fun _ => rfl) m HML.out Tr.kz 0 (by decide) _ rfl; rw [Nat.add_zero] at k0; have k1 := Tr.cellsN hst8 (fun _ => rfl) m HML.out Tr.kz 1 (by decide) _ rfl; have k2 := Tr.cellsN hst8 (fun _ => rfl) m HML.out Tr.kz 2 (by decide) _ rfl; have kf0 := Tr.ownFree (hst8.ownAt 0 rfl) (m * 3); have kf1 := Tr.ownFree (hst8.ownAt 0 rfl) (m * 3 + 1); have kf2 := Tr.ownFree (hst8.ownAt 0 rfl) (m * 3 + 2); have hst9 := Tr.setKid hst8 m HML.out (.mk a b [], .slice ao n' c', []); simp only [Tr.prod, Tr.tok] at hst9; have HST9 := Lib.hid hst9; clear hst9; obtain ⟨g0'', g1'', g2''⟩ := HST9.out.at3 4 rfl; have d0' := bkeep HST9.out.bel DD0.out; have d1' := bkeep HST9.out.bel DD1.out; clear hst8)
                refine hK.out _ _ ?_ (fun hHeld => ?_)
                · (try dsimp only); (first | exact ⟨g0, g1, g2, d0, d1⟩ | exact ⟨g0'', g1'', g2'', d0', d1'⟩ | go_keep)
                clear hK K
                try simp only [List.getElem_toArray, List.getElem_cons_zero, List.getElem_cons_succ, Act.put, List.setIfInBounds_toArray, List.set_cons_zero, List.set_cons_succ]
                refine wpAnyH_take (i := 10) (v := ?_) rfl (by kernel_rfl) (by kernel_rfl) (by kernel_rfl) (fun _ _ _ h => h) (Or.inl ⟨by rfl, ?_⟩) (by assumption) ?_
                rotate_left; focus (intro w hSw; (try dsimp only at hSw); go_simp; try (with_reducible rfl); done)
                try simp only [List.getElem_toArray, List.getElem_cons_zero, List.getElem_cons_succ, Act.put, List.setIfInBounds_toArray, List.set_cons_zero, List.set_cons_succ]
                refine wpAnyH_take (i := 11) (v := ?_) rfl (by kernel_rfl) (by kernel_rfl) (by kernel_rfl) (fun _ _ _ h => h) (Or.inl ⟨by rfl, ?_⟩) (by assumption) ?_
                rotate_left; focus (intro w hSw; (try dsimp only at hSw); go_simp; try (with_reducible rfl); done)
                try simp only [List.getElem_toArray, List.getElem_cons_zero, List.getElem_cons_succ, Act.put, List.setIfInBounds_toArray, List.set_cons_zero, List.set_cons_succ]
                refine wpAnyH_take (i := 12) (v := ?_) rfl (by kernel_rfl) (by kernel_rfl) (by kernel_rfl) (fun _ _ _ h => h) (Or.inl ⟨by rfl, ?_⟩) (by assumption) ?_
                rotate_left; focus (intro w hSw; (try dsimp only at hSw); go_simp; try (with_reducible rfl); done)
                try simp only [List.getElem_toArray, List.getElem_cons_zero, List.getElem_cons_succ, Act.put, List.setIfInBounds_toArray, List.set_cons_zero, List.set_cons_succ]
                refine wpAnyH_take (i := 13) (v := ?_) rfl (by kernel_rfl) (by kernel_rfl) (by kernel_rfl) (fun _ _ _ h => h) (Or.inl ⟨by rfl, ?_⟩) (by assumption) ?_
                rotate_left; focus (intro w hSw; (try dsimp only at hSw); go_simp; try (with_reducible rfl); done)
                try simp only [List.getElem_toArray, List.getElem_cons_zero, List.getElem_cons_succ, Act.put, List.setIfInBounds_toArray, List.set_cons_zero, List.set_cons_succ]
                refine wpAnyH_ready (rs := [14]) (by kernel_rfl) (by simp) ?_
                refine AllReadyH.cons rfl (fun K hK => ?_) AllReadyH.nil
                go_simp
                refine hK.out _ _ ?_ (fun hHeld => ?_)
                · (try dsimp only); (first | exact ⟨g0, g1, g2, d0, d1⟩ | exact ⟨g0'', g1'', g2'', d0', d1'⟩ | go_keep)
                clear hK K
                try simp only [List.getElem_toArray, List.getElem_cons_zero, List.getElem_cons_succ, Act.put, List.setIfInBounds_toArray, List.set_cons_zero, List.set_cons_succ]
                refine wpAnyH_take (i := 15) (v := ?_) rfl (by kernel_rfl) (by kernel_rfl) (by kernel_rfl) (fun _ _ _ h => h) (Or.inl ⟨by rfl, ?_⟩) (by assumption) ?_
                rotate_left; focus (intro w hSw; (try dsimp only at hSw); go_simp; try (with_reducible rfl); done)
                try simp only [List.getElem_toArray, List.getElem_cons_zero, List.getElem_cons_succ, Act.put, List.setIfInBounds_toArray, List.set_cons_zero, List.set_cons_succ]
                refine wpAnyH_done (by kernel_rfl) ?_ _
                clear g0 g1 g2 d0 d1 g0'' g1'' g2'' d0' d1' r0 r1 r2
                obtain ⟨r0, r1, r2⟩ := HST9.out.at3 3 rfl
                have f0 := (HST9.out.nth 3 rfl).celFree 0; have f1 := (HST9.out.nth 3 rfl).celFree 1; have f2 := (HST9.out.nth 3 rfl).celFree 2
                have HSTZ := Lib.hid (((HST9.out.pick [3] 5 rfl rfl).setCel 0 (.int .i64 0)).setCel 1 (.int .i64 0) |>.setCel 2 (.slice none 0 0))
                go_wp2
                obtain ⟨r0, r1, r2⟩ := HSTZ.out.at3 0 rfl
                refine bodyPost_ret (Tr.resT rfl _ _ _ rfl r0 r1 r2) rfl ?_
                exact ⟨fun _ => ⟨0, 0, none, 0, 0, rfl, HSTZ.out.pick [] 1 rfl rfl⟩, fun q hq => by cases hq⟩
              | some q =>
                have hYq := HKS.out q rfl
                have hlen2 := HSELF.out q.1 q.2 rfl
                have HYQ := Lib.hid hYq.symm
                have HLEN2 := Lib.hid hlen2
                clear HSELF HKN2 HKS hYq hlen2
                go_wp2
                refine wp_region_held_drew (S := (fun w' => w'.cell? ⟨w.heap.size, 0, none⟩ = some (.int .i64 tg) ∧ w'.cell? ⟨w.heap.size, 1, none⟩ = some (.int .i64 ng) ∧ w'.cell? ⟨w.heap.size, 2, none⟩ = some (.slice (some ⟨bp, op, none⟩) l.length cp) ∧ w'.cell? ⟨bb, ob + m * 2, none⟩ = some (.int .i64 u1) ∧ w'.cell? ⟨bb, ob + m * 2 + 1, none⟩ = some (.int .i64 u2))) (by kernel_rfl) ?_ (fun hHeld => ?_)
                · (try dsimp only); (first | exact ⟨g0, g1, g2, d0, d1⟩ | exact ⟨g0'', g1'', g2'', d0', d1'⟩ | go_keep)

                refine wpAnyH_take (i := 0) (v := ?_) rfl (by kernel_rfl) (by kernel_rfl) (by kernel_rfl) (fun _ _ _ h => h) (Or.inl ⟨by rfl, ?_⟩) (by assumption) ?_
                rotate_left; focus (intro w hSw; (try dsimp only at hSw); go_simp; try (with_reducible rfl); done)
                try simp only [List.getElem_toArray, List.getElem_cons_zero, List.getElem_cons_succ, Act.put, List.setIfInBounds_toArray, List.set_cons_zero, List.set_cons_succ]
                refine wpAnyH_take (i := 1) (v := ?_) rfl (by kernel_rfl) (by kernel_rfl) (by kernel_rfl) (fun _ _ _ h => h) (Or.inl ⟨by rfl, ?_⟩) (by assumption) ?_
                rotate_left; focus (intro w hSw; (try dsimp only at hSw); go_simp; try (with_reducible rfl); done)
                try simp only [List.getElem_toArray, List.getElem_cons_zero, List.getElem_cons_succ, Act.put, List.setIfInBounds_toArray, List.set_cons_zero, List.set_cons_succ]
                refine wpAnyH_take (i := 2) (v := ?_) rfl (by kernel_rfl) (by kernel_rfl) (by kernel_rfl) (fun _ _ _ h => h) (Or.inl ⟨by rfl, ?_⟩) (by assumption) ?_
                rotate_left; focus (intro w hSw; (try dsimp only at hSw); go_simp; try (with_reducible rfl); done)
                try simp only [List.getElem_toArray, List.getElem_cons_zero, List.getElem_cons_succ, Act.put, List.setIfInBounds_toArray, List.set_cons_zero, List.set_cons_succ]
                refine wpAnyH_take (i := 3) (v := ?_) rfl (by kernel_rfl) (by kernel_rfl) (by kernel_rfl) (fun _ _ _ h => h) (Or.inl ⟨by rfl, ?_⟩) (by assumption) ?_
                rotate_left; focus (intro w hSw; (try dsimp only at hSw); go_simp; try (with_reducible rfl); done)
                try simp only [List.getElem_toArray, List.getElem_cons_zero, List.getElem_cons_succ, Act.put, List.setIfInBounds_toArray, List.set_cons_zero, List.set_cons_succ]
                refine wpAnyH_take (i := 4) (v := ?_) rfl (by kernel_rfl) (by kernel_rfl) (by kernel_rfl) (fun _ _ _ h => h) (Or.inl ⟨by rfl, ?_⟩) (by assumption) ?_
                rotate_left; focus (intro w hSw; (try dsimp only at hSw); go_simp; try (with_reducible rfl); done)
                try simp only [List.getElem_toArray, List.getElem_cons_zero, List.getElem_cons_succ, Act.put, List.setIfInBounds_toArray, List.set_cons_zero, List.set_cons_succ]
                refine wpAnyH_take (i := 5) (v := ?_) rfl (by kernel_rfl) (by kernel_rfl) (by kernel_rfl) (fun _ _ _ h => h) (Or.inl ⟨by rfl, ?_⟩) (by assumption) ?_
                rotate_left; focus (intro w hSw; (try dsimp only at hSw); go_simp; try (with_reducible rfl); done)
                try simp only [List.getElem_toArray, List.getElem_cons_zero, List.getElem_cons_succ, Act.put, List.setIfInBounds_toArray, List.set_cons_zero, List.set_cons_succ]
                refine wpAnyH_take (i := 6) (v := ?_) rfl (by kernel_rfl) (by kernel_rfl) (by kernel_rfl) (fun _ _ _ h => h) (Or.inl ⟨by rfl, ?_⟩) (by assumption) ?_
                rotate_left; focus (intro w hSw; (try dsimp only at hSw); go_simp; try (with_reducible rfl); done)
                try simp only [List.getElem_toArray, List.getElem_cons_zero, List.getElem_cons_succ, Act.put, List.setIfInBounds_toArray, List.set_cons_zero, List.set_cons_succ]
                refine wpAnyH_take (i := 7) (v := ?_) rfl (by kernel_rfl) (by kernel_rfl) (by kernel_rfl) (fun _ _ _ h => h) (Or.inl ⟨by rfl, ?_⟩) (by assumption) ?_
                rotate_left; focus (intro w hSw; (try dsimp only at hSw); go_simp; try (with_reducible rfl); done)
                try simp only [List.getElem_toArray, List.getElem_cons_zero, List.getElem_cons_succ, Act.put, List.setIfInBounds_toArray, List.set_cons_zero, List.set_cons_succ]
                refine wpAnyH_take (i := 8) (v := ?_) rfl (by kernel_rfl) (by kernel_rfl) (by kernel_rfl) (fun _ _ _ h => h) (Or.inl ⟨by rfl, ?_⟩) (by assumption) ?_
                rotate_left; focus (intro w hSw; (try dsimp only at hSw); go_simp; try (with_reducible rfl); done)
                try simp only [List.getElem_toArray, List.getElem_cons_zero, List.getElem_cons_succ, Act.put, List.setIfInBounds_toArray, List.set_cons_zero, List.set_cons_succ]
                refine wpAnyH_ready (rs := [9]) (by kernel_rfl) (by simp) ?_
                refine AllReadyH.cons rfl (fun K hK => ?_) AllReadyH.nil
                go_simp
                (go_at_call 119; refine HC.out.mono ?_; rintro e w8 ⟨-, hz⟩; obtain ⟨ao, n', c', tw', fp, rfl, h1, h2, h4, h5, hst7⟩ := hz q rfl; have HAT := Lib.hid h1; have hst8 := (HST2.out.joined hst7).pick [1, 0, 2, 3, 4, 5] 6 rfl rfl; clear hst7 hz h1; obtain ⟨g0, g1, g2⟩ := hst8.at3 5 rfl; have d0 := bkeep hst8.bel DD0.out; have d1 := bkeep hst8.bel DD1.out; have k0 := Tr.cellsN hst8 (fun _ => rfl) m HML.out Tr.kz 0 (by decide) _ rfl; rw [Nat.add_zero] at k0; have k1 := Tr.cellsN hst8 (fun _ => rfl) m HML.out Tr.kz 1 (by decide) _ rfl; have k2 := Tr.cellsN hst8 (fun _ => rfl) m HML.out Tr.kz 2 (by decide) _ rfl; have kf0 := Tr.ownFree (hst8.ownAt 0 rfl) (m * 3); have kf1 := Tr.ownFree (hst8.ownAt 0 rfl) (m * 3 + 1); have kf2 := Tr.ownFree (hst8.ownAt 0 rfl) (m * 3 + 2); have HST9 := Lib.hid (Tr.setKid hst8 m HML.out (q.1, .slice ao n' c', fp)); obtain ⟨g0'', g1'', g2''⟩ := HST9.out.at3 5 rfl; have d0' := bkeep HST9.out.bel DD0.out; have d1' := bkeep HST9.out.bel DD1.out; clear hst8)
                refine hK.out _ _ ?_ (fun hHeld => ?_)
                · (try dsimp only); (first | exact ⟨g0, g1, g2, d0, d1⟩ | exact ⟨g0'', g1'', g2'', d0', d1'⟩ | go_keep)
                clear hK K
                try simp only [List.getElem_toArray, List.getElem_cons_zero, List.getElem_cons_succ, Act.put, List.setIfInBounds_toArray, List.set_cons_zero, List.set_cons_succ]
                refine wpAnyH_take (i := 10) (v := ?_) rfl (by kernel_rfl) (by kernel_rfl) (by kernel_rfl) (fun _ _ _ h => h) (Or.inl ⟨by rfl, ?_⟩) (by assumption) ?_
                rotate_left; focus (intro w hSw; (try dsimp only at hSw); go_simp; try (with_reducible rfl); done)
                try simp only [List.getElem_toArray, List.getElem_cons_zero, List.getElem_cons_succ, Act.put, List.setIfInBounds_toArray, List.set_cons_zero, List.set_cons_succ]
                refine wpAnyH_take (i := 11) (v := ?_) rfl (by kernel_rfl) (by kernel_rfl) (by kernel_rfl) (fun _ _ _ h => h) (Or.inl ⟨by rfl, ?_⟩) (by assumption) ?_
                rotate_left; focus (intro w hSw; (try dsimp only at hSw); go_simp; try (with_reducible rfl); done)
                try simp only [List.getElem_toArray, List.getElem_cons_zero, List.getElem_cons_succ, Act.put, List.setIfInBounds_toArray, List.set_cons_zero, List.set_cons_succ]
                refine wpAnyH_take (i := 12) (v := ?_) rfl (by kernel_rfl) (by kernel_rfl) (by kernel_rfl) (fun _ _ _ h => h) (Or.inl ⟨by rfl, ?_⟩) (by assumption) ?_
                rotate_left; focus (intro w hSw; (try dsimp only at hSw); go_simp; try (with_reducible rfl); done)
                try simp only [List.getElem_toArray, List.getElem_cons_zero, List.getElem_cons_succ, Act.put, List.setIfInBounds_toArray, List.set_cons_zero, List.set_cons_succ]
                refine wpAnyH_take (i := 13) (v := ?_) rfl (by kernel_rfl) (by kernel_rfl) (by kernel_rfl) (fun _ _ _ h => h) (Or.inl ⟨by rfl, ?_⟩) (by assumption) ?_
                rotate_left; focus (intro w hSw; (try dsimp only at hSw); go_simp; try (with_reducible rfl); done)
                try simp only [List.getElem_toArray, List.getElem_cons_zero, List.getElem_cons_succ, Act.put, List.setIfInBounds_toArray, List.set_cons_zero, List.set_cons_succ]
                refine wpAnyH_ready (rs := [14]) (by kernel_rfl) (by simp) ?_
                refine AllReadyH.cons rfl (fun K hK => ?_) AllReadyH.nil
                go_simp
                refine hK.out _ _ ?_ (fun hHeld => ?_)
                · (try dsimp only); (first | exact ⟨g0, g1, g2, d0, d1⟩ | exact ⟨g0'', g1'', g2'', d0', d1'⟩ | go_keep)
                clear hK K
                try simp only [List.getElem_toArray, List.getElem_cons_zero, List.getElem_cons_succ, Act.put, List.setIfInBounds_toArray, List.set_cons_zero, List.set_cons_succ]
                refine wpAnyH_take (i := 15) (v := ?_) rfl (by kernel_rfl) (by kernel_rfl) (by kernel_rfl) (fun _ _ _ h => h) (Or.inl ⟨by rfl, ?_⟩) (by assumption) ?_
                rotate_left; focus (intro w hSw; (try dsimp only at hSw); go_simp; try (with_reducible rfl); done)
                try simp only [List.getElem_toArray, List.getElem_cons_zero, List.getElem_cons_succ, Act.put, List.setIfInBounds_toArray, List.set_cons_zero, List.set_cons_succ]
                refine wpAnyH_done (by kernel_rfl) ?_ _
                clear g0 g1 g2 d0 d1 g0'' g1'' g2'' d0' d1' r0 r1 r2 y0 y1
                have HOKN : Hid (∀ z ∈ ((q.1, .slice ao n' c', fp) : Tr.K3) :: R, Tr.KidOk z) := Lib.hid (fun q' hq => by
                  rcases List.mem_cons.1 hq with hq | hq
                  · rw [hq]; exact ⟨h4, h5, ao, n', c', rfl⟩
                  · exact HOK.out q' hq)
                have htw3 : tw' < tw2 := by
                  have h1 := HLEN2.out
                  rw [← HAT.out, List.length_reverse, List.length_reverse, List.length_take, List.length_take] at h1
                  omega
                have hset : (List.replicate (m + 1) Tr.kz ++ R).set m (q.1, .slice ao n' c', fp) = List.replicate m Tr.kz ++ ((q.1, .slice ao n' c', fp) : Tr.K3) :: R := by
                  rw [List.set_append, if_pos (by simp), List.replicate_succ', List.set_append, if_neg (by simp)]
                  simp
                have HSET := Lib.hid hset
                clear hset
                go_wp2
                go_roundg m
                case measure => have := HGK.out; omega
                case rel => exact ⟨m, (q.1, .slice ao n' c', fp) :: R, tw', _, by omega, rfl, rfl, by go_num, rfl, Lib.hid (by have := HMR.out; rw [List.length_cons]; omega), HOKN, h2, by omega, Lib.hid (by rw [List.map_cons, HAT.out]; exact HYQ.out), by rw [← HSET.out]; exact (HST9.out.pick [0, 2, 1, 3, 4, 5] 6 rfl rfl).get2.get3.consAll.get2⟩
        · have HD := Lib.hid (Tr.ru_bad (G := l) (f := f) (x := (x1, x2)) (e := (e1, e2)) (s := (E.take at_).reverse) hx hgood)
          by_cases h1 : e1 = 4
          · subst h1
            by_cases hn0 : e2 < 0
            · go_enter Try.func119, Try.ntmps119
              go_wp2
              go_quiet (fail)
              have HS9 := Lib.hid (HSN.out nq)
              clear HSN y0 y1 g0 g1 g2 x0 x1' d0 d1
              generalize World.drewN _ _ = w9 at *
              obtain ⟨r0, r1, r2⟩ := HS9.out.at3 1 rfl
              have f0 := (HS9.out.nth 1 rfl).celFree 0; have f1 := (HS9.out.nth 1 rfl).celFree 1; have f2 := (HS9.out.nth 1 rfl).celFree 2
              have HSTE := Lib.hid (((HS9.out.pick [1] 4 rfl rfl).setCel 0 (.int .i64 0)).setCel 1 (.int .i64 0) |>.setCel 2 (.slice none 0 0))
              go_wp2
              obtain ⟨r0, r1, r2⟩ := HSTE.out.at3 0 rfl
              refine bodyPost_ret (Tr.resT rfl _ _ _ rfl r0 r1 r2) rfl ?_
              refine ⟨fun _ => ⟨0, 0, none, 0, 0, rfl, HSTE.out.pick [] 1 rfl rfl⟩, fun q hq => ?_⟩
              rw [HD.out] at hq
              cases hq
            have hn0' : decide (e2 < 0) = false := decide_eq_false hn0
            obtain ⟨p, rfl⟩ := Int.eq_ofNat_of_zero_le (by omega : 0 ≤ e2)
            by_cases hn1 : (l.length : Int) ≤ p
            · go_enter Try.func119, Try.ntmps119
              go_wp2
              go_quiet (fail)
              have HS9 := Lib.hid (HSN.out nq)
              clear HSN y0 y1 g0 g1 g2 x0 x1' d0 d1
              generalize World.drewN _ _ = w9 at *
              obtain ⟨r0, r1, r2⟩ := HS9.out.at3 1 rfl
              have f0 := (HS9.out.nth 1 rfl).celFree 0; have f1 := (HS9.out.nth 1 rfl).celFree 1; have f2 := (HS9.out.nth 1 rfl).celFree 2
              have HSTE := Lib.hid (((HS9.out.pick [1] 4 rfl rfl).setCel 0 (.int .i64 0)).setCel 1 (.int .i64 0) |>.setCel 2 (.slice none 0 0))
              go_wp2
              obtain ⟨r0, r1, r2⟩ := HSTE.out.at3 0 rfl
              refine bodyPost_ret (Tr.resT rfl _ _ _ rfl r0 r1 r2) rfl ?_
              refine ⟨fun _ => ⟨0, 0, none, 0, 0, rfl, HSTE.out.pick [] 1 rfl rfl⟩, fun q hq => ?_⟩
              rw [HD.out] at hq
              cases hq
            have hlt3 : p < l.length := by omega
            have hn1' : decide (l.length ≤ p) = false := decide_eq_false (by omega)
            obtain ⟨rfl, -, -⟩ := P3.out (by omega)
            obtain ⟨vb, c1, c2, -, -⟩ := P4.out p hlt3
            rw [Int.toNat_natCast] at hgood
            generalize (l.getD p (0, [])).1 = h0 at *
            have hne : (h0 != x2) = true := by rw [bne_iff_ne]; intro h; exact hgood ⟨rfl, by omega, by omega, h⟩
            have hlt4 : (p : Int) < l.length := by omega
            have c1 := bkeep HST.out.bel c1
            clear c2 hgood
            go_enter Try.func119, Try.ntmps119
            go_wp2
            go_quiet (fail)
            have HS9 := Lib.hid (HSN.out nq)
            clear HSN y0 y1 g0 g1 g2 x0 x1' d0 d1
            generalize World.drewN _ _ = w9 at *
            obtain ⟨r0, r1, r2⟩ := HS9.out.at3 1 rfl
            have f0 := (HS9.out.nth 1 rfl).celFree 0; have f1 := (HS9.out.nth 1 rfl).celFree 1; have f2 := (HS9.out.nth 1 rfl).celFree 2
            have HSTE := Lib.hid (((HS9.out.pick [1] 4 rfl rfl).setCel 0 (.int .i64 0)).setCel 1 (.int .i64 0) |>.setCel 2 (.slice none 0 0))
            go_wp2
            obtain ⟨r0, r1, r2⟩ := HSTE.out.at3 0 rfl
            refine bodyPost_ret (Tr.resT rfl _ _ _ rfl r0 r1 r2) rfl ?_
            refine ⟨fun _ => ⟨0, 0, none, 0, 0, rfl, HSTE.out.pick [] 1 rfl rfl⟩, fun q hq => ?_⟩
            rw [HD.out] at hq
            cases hq
          · have h1b : (e1 != 4) = true := by simpa using h1
            clear hgood
            go_enter Try.func119, Try.ntmps119
            go_wp2
            go_quiet (fail)
            have HS9 := Lib.hid (HSN.out nq)
            clear HSN y0 y1 g0 g1 g2 x0 x1' d0 d1
            generalize World.drewN _ _ = w9 at *
            obtain ⟨r0, r1, r2⟩ := HS9.out.at3 1 rfl
            have f0 := (HS9.out.nth 1 rfl).celFree 0; have f1 := (HS9.out.nth 1 rfl).celFree 1; have f2 := (HS9.out.nth 1 rfl).celFree 2
            have HSTE := Lib.hid (((HS9.out.pick [1] 4 rfl rfl).setCel 0 (.int .i64 0)).setCel 1 (.int .i64 0) |>.setCel 2 (.slice none 0 0))
            go_wp2
            obtain ⟨r0, r1, r2⟩ := HSTE.out.at3 0 rfl
            refine bodyPost_ret (Tr.resT rfl _ _ _ rfl r0 r1 r2) rfl ?_
            refine ⟨fun _ => ⟨0, 0, none, 0, 0, rfl, HSTE.out.pick [] 1 rfl rfl⟩, fun q hq => ?_⟩
            rw [HD.out] at hq
            cases hq
end Go.Proofs.Ytldapomcjfkeeaa
