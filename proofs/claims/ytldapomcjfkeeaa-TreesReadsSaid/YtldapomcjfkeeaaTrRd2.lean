/-
  ofDown of the reference.
-/
import Derived.Test.YtldapomcjfkeeaaTrOfD
namespace Go.Proofs.Ytldapomcjfkeeaa
set_option linter.unusedVariables false
set_option linter.unusedSimpArgs false
open Go.ChangeShapes Go.WideShapes Go.ChangeAt Go.RowKit

namespace Tr
def RdPost (w : World) (E : List Ev) (D : Option R3) (e : Ending) (w' : World) : Prop :=
  (D = none → ∃ (a b : Int) (ao : Option Addr) (n c : Nat), e = .returned (.tuple #[.agg #[.int .i64 a, .int .i64 b, .slice ao n c], .int .i64 (-1)]) ∧ St w w' []) ∧
  (∀ q, D = some q → ∃ (ao : Option Addr) (n c at' : Nat) (fp : List Nat), e = .returned (.tuple #[.agg #[.int .i64 q.1.prod, .int .i64 q.1.tok, .slice ao n c], .int .i64 (at' : Int)]) ∧ E.drop at' = q.2.1 ∧ at' ≤ E.length ∧ In64 q.1.prod ∧ In64 q.1.tok ∧
    St w w' [aEnc (any.sl 40) fp [.slice ao n c] q.1.kids])
end Tr

set_option maxRecDepth 100000 in
set_option maxHeartbeats 16000000 in
theorem rDn_any (tg ng : Int) (vp : Value) (l : List (Int × List (Int × Int))) (hl : l.length ≤ 40) (hb8 : ∀ p ∈ l, p.2.length ≤ 8) (al : Option Addr) (cl : Nat) (E : List Tr.Ev) (hE : E.length ≤ 2000) :
    ∀ (f : Nat) (x : Int × Int) (s : List Tr.Ev) (at_ c : Nat) (w : World) (F : Nat → Prop), (∀ b, F b → b < w.heap.size) → Enc.prods.R F w [vp] l → (Enc.two.sl 16).R F w [.slice al E.length cl] E → E.drop at_ = s → at_ ≤ E.length → s.length < f →
      Calls Try.prog 118 #[.agg #[.int .i64 tg, .int .i64 ng, vp], .slice al E.length cl, .agg #[.int .i64 x.1, .int .i64 x.2], .int .i64 (at_ : Int)] w (Tr.RdPost w E (Tr.dn false l f x s c)) := by
  have HL := Lib.hid hl; have HB8 := Lib.hid hb8
  clear hl hb8
  intro f
  induction f with
  | zero => intro x s at_ c w F _ _ _ _ _ h; omega
  | succ f ih =>
    intro x s at_ c w F hF hp hev hs hat hsf
    have HF := Lib.hid hF; have HP := Lib.hid hp; have HEV := Lib.hid hev; have IH := Lib.hid ih
    obtain ⟨ap, bp, op, cp, rfl, -, p3, p4⟩ := slProds hp
    obtain ⟨_, bl, ol, _, hv, -, l3, l4⟩ := slTwo hev
    simp only [Value.slice.injEq, true_and] at hv
    obtain ⟨rfl, rfl⟩ := hv
    obtain ⟨x1, x2⟩ := x
    have P3 := Lib.hid p3; have P4 := Lib.hid p4; have L3 := Lib.hid l3; have L4 := Lib.hid l4
    have hbig := (((St.init w).alloc #[.int .i64 tg, .int .i64 ng, .slice ap l.length cp] 68).alloc #[.int .i64 x1, .int .i64 x2] 96).alloc #[.int .i64 0, .int .i64 0, .slice none 0 0] 71
    simp only [World.size_alloc] at hbig
    obtain ⟨x0, x1'⟩ := hbig.at2 1 rfl
    obtain ⟨g0, g1, g2⟩ := hbig.at3 2 rfl
    obtain ⟨r0, r1, r2, f0, f1, f2⟩ := hbig.cel3
    have HST := Lib.hid hbig
    have HZERO := Lib.hid hbig
    have HBASE := Lib.hid (fun (a b : Int) => show St w _ _ from (((St.init w).alloc #[.int .i64 tg, .int .i64 ng, .slice ap l.length cp] 68).alloc #[.int .i64 x1, .int .i64 x2] 96).alloc #[.int .i64 a, .int .i64 b, .slice none 0 0] 71)
    simp only [World.size_alloc] at HBASE
    have HS := Lib.hid hs
    clear hbig ih hF hp hev p3 p4 l3 l4
    by_cases hlt : at_ < E.length
    · obtain ⟨rfl, -, -⟩ := L3.out (by omega)
      obtain ⟨d0, d1, hi0, hi1⟩ := L4.out at_ hlt
      have hs1 := hs
      rw [Gr.drop_at E (0, 0) at_ hlt] at hs1
      subst hs1
      have D0 := Lib.hid d0; have D1 := Lib.hid d1
      have d0 := bkeep HST.out.bel d0
      have d1 := bkeep HST.out.bel d1
      have hlt2 : (at_ : Int) < E.length := by omega
      generalize E.getD at_ (0, 0) = e at *
      obtain ⟨e1, e2⟩ := e
      simp only at d0 d1 hi0 hi1
      have HIB := Lib.hid hi1
      by_cases hx : x1 = 1
      · subst hx
        by_cases hk : e1 = 2
        · subst hk
          have HD := Lib.hid (Tr.dn_leaf_yes (chk := false) (G := l) (f := f) (c := c) (x := (1, x2)) (e := (2, e2)) (s := E.drop (at_ + 1)) rfl rfl (fun h => by cases h))
          have HFIN := Lib.hid (HBASE.out (-1) e2)
          clear hs hi0 hi1 hsf
          go_enter Try.func118, Try.ntmps118
          go_wp2
          obtain ⟨r0, r1, r2⟩ := HFIN.out.at3 0 rfl
          refine bodyPost_ret (Tr.resT rfl _ _ _ rfl r0 r1 r2) rfl ?_
          refine ⟨fun h => (by rw [HD.out] at h; cases h), fun q hq => ?_⟩
          rw [HD.out] at hq
          cases hq
          exact ⟨none, 0, 0, at_ + 1, [], rfl, rfl, hlt, ⟨by show (-9223372036854775808 : Int) ≤ -1; decide, by show (-1 : Int) ≤ 9223372036854775807; decide⟩, HIB.out, Tr.nilEnc ((HFIN.out.pick [] 3 rfl rfl))⟩
        · have HD := Lib.hid (Tr.dn_leaf_no (chk := false) (G := l) (f := f) (c := c) (x := (1, x2)) (e := (e1, e2)) (s := E.drop (at_ + 1)) rfl (fun h => hk h.1))
          have hk2 : (e1 != 2) = true := by simpa using hk
          clear hs hi0 hi1 hsf
          go_enter Try.func118, Try.ntmps118
          go_wp2
          obtain ⟨r0, r1, r2⟩ := HZERO.out.at3 0 rfl
          refine bodyPost_ret (Tr.resT rfl _ _ _ rfl r0 r1 r2) rfl ?_
          refine ⟨fun _ => ⟨0, 0, none, 0, 0, rfl, HZERO.out.pick [] 3 rfl rfl⟩, fun q hq => ?_⟩
          rw [HD.out] at hq
          cases hq
      · have hxb : (x1 == 1) = false := by rw [beq_eq_false_iff_ne]; exact hx
        by_cases hgood : e1 = 1 ∧ 0 ≤ e2 ∧ e2 < l.length ∧ (l.getD e2.toNat (0, [])).1 = x2
        · skip
          have HKN := Lib.hid (fun h => Tr.dn_kids_none (chk := false) (G := l) (f := f) (c := c) (x := (x1, x2)) (e := (e1, e2)) (s := E.drop (at_ + 1)) hx hgood h)
          have HKY := Lib.hid (fun ts e' s2 c' h hm => Tr.dn_kids_yes (chk := false) (G := l) (f := f) (c := c) (x := (x1, x2)) (e := (e1, e2)) (s := E.drop (at_ + 1)) (ts := ts) (e' := e') (s' := s2) (c' := c') hx hgood h hm)
          have HKM := Lib.hid (fun ts s2 c' h hm => Tr.dn_kids_no (chk := false) (G := l) (f := f) (c := c) (x := (x1, x2)) (e := (e1, e2)) (s := E.drop (at_ + 1)) (ts := ts) (s' := s2) (c' := c') hx hgood h hm)
          obtain ⟨rfl, hb0, hb1, hb2⟩ := hgood
          obtain ⟨p, rfl⟩ := Int.eq_ofNat_of_zero_le hb0
          rw [Int.toNat_natCast] at hb2 HKN HKY HKM
          have hlt3 : p < l.length := by omega
          obtain ⟨rfl, -, -⟩ := P3.out (by omega)
          obtain ⟨vb, c1, c2, hbody, -⟩ := P4.out p hlt3
          obtain ⟨ab, bb, ob, cb, rfl, -, b3, b4⟩ := slTwo hbody
          have h8 := HB8.out (l.getD p (0, [])) (by simp [List.getD, List.getElem?_eq_getElem hlt3])
          generalize l.getD p (0, []) = pp at *
          obtain ⟨h0, body⟩ := pp
          simp only at c1 c2 hb2 b3 b4 h8 HKN HKY HKM
          subst hb2
          obtain ⟨D, hD⟩ : ∃ D, Tr.dn false l (f + 1) (x1, h0) ((1, (p : Int)) :: E.drop (at_ + 1)) c = D := ⟨_, rfl⟩
          rw [hD] at HKN HKY HKM ⊢
          obtain ⟨Y, hY⟩ : ∃ Y, Tr.dnK (Tr.dn false l f) body (E.drop (at_ + 1)) c = Y := ⟨_, rfl⟩
          rw [hY] at HKN HKY HKM
          have HY := Lib.hid hY
          have C2 := Lib.hid c2; have B3 := Lib.hid b3; have B4 := Lib.hid b4
          have hlt4 : (p : Int) < l.length := by omega
          have hn0' : decide ((p : Int) < 0) = false := decide_eq_false (by omega)
          have hn1' : decide (l.length ≤ p) = false := decide_eq_false (by omega)
          have hne : (h0 != h0) = false := by rw [bne_eq_false_iff_eq]
          have hsf2 : (E.drop (at_ + 1)).length < f := by simp only [List.length_cons] at hsf; omega
          have c1 := bkeep HST.out.bel c1
          have HSN := Lib.hid (fun n => HST.out.drewN n)
          clear hs hbody c2 b3 b4 hD hY hb0 hb1 hsf hi0 hi1
          go_enter Try.func118, Try.ntmps118
          go_wp2
          go_quiet (fail)
          have HS9 := Lib.hid (HSN.out nq)
          clear HSN r0 r1 r2 f0 f1 f2 hne hn0' hn1' c1 d0 d1 x0 x1' g0 g1 g2
          generalize World.drewN _ _ = w9 at *
          have HST3 := Lib.hid (HS9.out.alloc #[.int .i64 p, .int .i64 0, .slice none 0 0] 71)
          obtain ⟨g0, g1, g2⟩ := HST3.out.at3 3 rfl
          go_wp2
          clear g0 g1 g2
          go_loopg [3, 12] body.length (fun gk a i wr => ∃ (k : Nat) (L : List Tr.K3) (s2 : List Tr.Ev) (at2 c2 : Nat) (v : Value), k ≤ body.length ∧ gk = body.length - k ∧ i = .int .i64 k ∧ a = .int .i64 at2 ∧ Hid (L.length = k) ∧ Hid (∀ q ∈ L, Tr.KidOk q) ∧ Hid (E.drop at2 = s2) ∧ at2 ≤ E.length ∧ s2.length < f ∧
            Hid ((Tr.dnK (Tr.dn false l f) (body.drop k) s2 c2).map (fun z => (L.map (·.1) ++ z.1, z.2)) = Y) ∧
            St w wr (aOwn 71 3 v (L.map Tr.kidV) :: aAll (L.map Tr.kidA) :: aCel w9.heap.size 71 #[.int .i64 p, .int .i64 0, v] :: aCel (w.heap.size + 1 + 1) 71 #[.int .i64 0, .int .i64 0, .slice none 0 0] :: aCel w.heap.size 68 #[.int .i64 tg, .int .i64 ng, .slice (some ⟨bp, op, none⟩) l.length cp] :: []))
          case atStart => exact ⟨0, [], _, at_ + 1, c, .slice none 0 0, by omega, by omega, rfl, by go_num, Lib.hid rfl, Lib.hid (fun q h => by cases h), Lib.hid rfl, hlt, hsf2, Lib.hid (by rw [List.drop_zero, HY.out]; cases Y <;> simp), ((HST3.out.nilAll.nilOwn 71 3).pick [0, 1, 2, 3, 5] 6 rfl rfl)⟩
          case round =>
            clear HST3 HS9 HY hsf2
            obtain ⟨k, L, s2, at2, c2, v, hk, hgk, rfl, rfl, HL0, HOK, HS2, hat2, hs2f, HY, hst⟩ := hrel
            have HGK := Lib.hid hgk
            clear hgk
            obtain ⟨av, cv, hv⟩ := (hst.ownAt 0 rfl).isLen
            rw [List.length_map, HL0.out] at hv
            subst hv
            obtain ⟨o0, o1, o2⟩ := hst.at3 2 rfl
            obtain ⟨r0, r1, r2⟩ := hst.at3 3 rfl
            have f0 := (hst.nth 3 rfl).celFree 0; have f1 := (hst.nth 3 rfl).celFree 1; have f2 := (hst.nth 3 rfl).celFree 2
            obtain ⟨g0, g1, g2⟩ := hst.at3 4 rfl
            have c2' := bkeep hst.bel C2.out
            by_cases hlt5 : k < body.length
            · obtain ⟨rfl, -, -⟩ := B3.out (by omega)
              obtain ⟨d0, d1, -, -⟩ := B4.out k hlt5
              have hKN := Tr.dnK_none (g := Tr.dn false l f) (s := s2) (c := c2) (A := L.map (·.1)) hlt5
              have hKS := fun q => Tr.dnK_some (g := Tr.dn false l f) (s := s2) (c := c2) (A := L.map (·.1)) hlt5 (q := q)
              have hself := fun q h => Tr.dn_self (chk := false) (G := l) f (body.getD k (0, 0)) s2 c2 q h
              have hcall := fun W (hW : Below w.heap.size w W) => IH.out (body.getD k (0, 0)) s2 at2 c2 W F (fun b hb => Nat.lt_of_lt_of_le (HF.out b hb) hW.size) (Enc.mono _ HP.out (fun _ h => h) (fun b hb => hW.block b (HF.out b hb))) (Enc.mono _ HEV.out (fun _ h => h) (fun b hb => hW.block b (HF.out b hb))) HS2.out hat2 hs2f
              rw [HY.out] at hKN hKS
              generalize body.getD k (0, 0) = y at *
              obtain ⟨y1, y2⟩ := y
              simp only at d0 d1 hcall
              have DD0 := Lib.hid d0; have DD1 := Lib.hid d1
              have d0 := bkeep hst.bel d0
              have d1 := bkeep hst.bel d1
              have hlt6 : (k : Int) < body.length := by omega
              have hst2 := hst.alloc #[.int .i64 0, .int .i64 0, .slice none 0 0] 71
              have HC := Lib.hid (hcall _ hst2.drew.bel)
              have HSELF := Lib.hid hself
              have HST2 := Lib.hid hst2.drew
              obtain ⟨Q, hQ⟩ : ∃ Q, Tr.dn false l f (y1, y2) s2 c2 = Q := ⟨_, rfl⟩
              rw [hQ] at HC HSELF hKN hKS
              have HKN2 := Lib.hid hKN; have HKS := Lib.hid hKS
              have d0 := bkeep (St.bel ((St.init wr).skip (.cells #[.int .i64 0, .int .i64 0, .slice none 0 0] 71))) d0
              have d1 := bkeep (St.bel ((St.init wr).skip (.cells #[.int .i64 0, .int .i64 0, .slice none 0 0] 71))) d1
              have c2'' := bkeep (St.bel ((St.init wr).skip (.cells #[.int .i64 0, .int .i64 0, .slice none 0 0] 71))) c2'
              obtain ⟨g0', g1', g2'⟩ := hst2.at3 5 rfl
              clear hst hcall hself hQ hKN hKS HY
              cases Q with
              | none =>
                have hY0 := HKN2.out rfl
                subst hY0
                have HD := Lib.hid (HKN.out rfl)
                clear hst2
                go_wp2
                refine wp_region_held_drew (S := (fun w' => w'.cell? ⟨w.heap.size, 0, none⟩ = some (.int .i64 tg) ∧ w'.cell? ⟨w.heap.size, 1, none⟩ = some (.int .i64 ng) ∧ w'.cell? ⟨w.heap.size, 2, none⟩ = some (.slice (some ⟨bp, op, none⟩) l.length cp) ∧ w'.cell? ⟨bp, op + p * 2 + 1, none⟩ = some (.slice (some ⟨bb, ob, none⟩) body.length cb) ∧ w'.cell? ⟨bb, ob + k * 2, none⟩ = some (.int .i64 y1) ∧ w'.cell? ⟨bb, ob + k * 2 + 1, none⟩ = some (.int .i64 y2))) (by kernel_rfl) ?_ (fun hHeld => ?_)
                · (try dsimp only); (first | exact ⟨g0', g1', g2', c2'', d0, d1⟩ | exact ⟨g0'', g1'', g2'', c3', d0', d1'⟩ | go_keep)

                refine wpAnyH_take (i := 0) (v := ?_) rfl (by kernel_rfl) (by kernel_rfl) (by kernel_rfl) (fun _ _ _ h => h) (Or.inl ⟨by rfl, ?_⟩) (by assumption) ?_
                rotate_left; focus (intro w hSw; (try dsimp only at hSw); go_simp; try (with_reducible rfl); done)
                try simp only [List.getElem_toArray, List.getElem_cons_zero, List.getElem_cons_succ, Act.put, List.setIfInBounds_toArray, List.set_cons_zero, List.set_cons_succ]
                refine wpAnyH_take (i := 1) (v := ?_) rfl (by kernel_rfl) (by kernel_rfl) (by kernel_rfl) (fun _ _ _ h => h) (Or.inl ⟨by rfl, ?_⟩) (by assumption) ?_
                rotate_left; focus (intro w hSw; (try dsimp only at hSw); go_simp; try (with_reducible rfl); done)
                try simp only [List.getElem_toArray, List.getElem_cons_zero, List.getElem_cons_succ, Act.put, List.setIfInBounds_toArray, List.set_cons_zero, List.set_cons_succ]
                refine wpAnyH_take (i := 2) (v := ?_) rfl (by kernel_rfl) (by kernel_rfl) (by kernel_rfl) (fun _ _ _ h => h) (Or.inl ⟨by rfl, ?_⟩) (by assumption) ?_
                rotate_left; focus (intro w hSw; (try dsimp only at hSw); go_simp; try (with_reducible rfl); done)
                try simp only [List.getElem_toArray, List.getElem_cons_zero, List.getElem_cons_succ, Act.put, List.setIfInBounds_toArray, List.set_cons_zero, List.set_cons_succ]
                refine wpAnyH_take (i := 3) (v := ?_) rfl (by kernel_rfl) (by kernel_rfl) (by kernel_rfl) (fun _ _ _ h => h) (Or.inl ⟨by rfl, ?_⟩) (by assumption) ?_
                rotate_left; focus (intro w hSw; (try dsimp only at hSw); go_simp; try (with_reducible rfl); done)
                try simp only [List.getElem_toArray, List.getElem_cons_zero, List.getElem_cons_succ, Act.put, List.setIfInBounds_toArray, List.set_cons_zero, List.set_cons_succ]
                refine wpAnyH_take (i := 4) (v := ?_) rfl (by kernel_rfl) (by kernel_rfl) (by kernel_rfl) (fun _ _ _ h => h) (Or.inl ⟨by rfl, ?_⟩) (by assumption) ?_
                rotate_left; focus (intro w hSw; (try dsimp only at hSw); go_simp; try (with_reducible rfl); done)
                try simp only [List.getElem_toArray, List.getElem_cons_zero, List.getElem_cons_succ, Act.put, List.setIfInBounds_toArray, List.set_cons_zero, List.set_cons_succ]
                refine wpAnyH_take (i := 5) (v := ?_) rfl (by kernel_rfl) (by kernel_rfl) (by kernel_rfl) (fun _ _ _ h => h) (Or.inl ⟨by rfl, ?_⟩) (by assumption) ?_
                rotate_left; focus (intro w hSw; (try dsimp only at hSw); go_simp; try (with_reducible rfl); done)
                try simp only [List.getElem_toArray, List.getElem_cons_zero, List.getElem_cons_succ, Act.put, List.setIfInBounds_toArray, List.set_cons_zero, List.set_cons_succ]
                refine wpAnyH_take (i := 6) (v := ?_) rfl (by kernel_rfl) (by kernel_rfl) (by kernel_rfl) (fun _ _ _ h => h) (Or.inl ⟨by rfl, ?_⟩) (by assumption) ?_
                rotate_left; focus (intro w hSw; (try dsimp only at hSw); go_simp; try (with_reducible rfl); done)
                try simp only [List.getElem_toArray, List.getElem_cons_zero, List.getElem_cons_succ, Act.put, List.setIfInBounds_toArray, List.set_cons_zero, List.set_cons_succ]
                refine wpAnyH_take (i := 7) (v := ?_) rfl (by kernel_rfl) (by kernel_rfl) (by kernel_rfl) (fun _ _ _ h => h) (Or.inl ⟨by rfl, ?_⟩) (by assumption) ?_
                rotate_left; focus (intro w hSw; (try dsimp only at hSw); go_simp; try (with_reducible rfl); done)
                try simp only [List.getElem_toArray, List.getElem_cons_zero, List.getElem_cons_succ, Act.put, List.setIfInBounds_toArray, List.set_cons_zero, List.set_cons_succ]
                refine wpAnyH_take (i := 8) (v := ?_) rfl (by kernel_rfl) (by kernel_rfl) (by kernel_rfl) (fun _ _ _ h => h) (Or.inl ⟨by rfl, ?_⟩) (by assumption) ?_
                rotate_left; focus (intro w hSw; (try dsimp only at hSw); go_simp; try (with_reducible rfl); done)
                try simp only [List.getElem_toArray, List.getElem_cons_zero, List.getElem_cons_succ, Act.put, List.setIfInBounds_toArray, List.set_cons_zero, List.set_cons_succ]
                refine wpAnyH_take (i := 9) (v := ?_) rfl (by kernel_rfl) (by kernel_rfl) (by kernel_rfl) (fun _ _ _ h => h) (Or.inl ⟨by rfl, ?_⟩) (by assumption) ?_
                rotate_left; focus (intro w hSw; (try dsimp only at hSw); go_simp; try (with_reducible rfl); done)
                try simp only [List.getElem_toArray, List.getElem_cons_zero, List.getElem_cons_succ, Act.put, List.setIfInBounds_toArray, List.set_cons_zero, List.set_cons_succ]
                refine wpAnyH_take (i := 10) (v := ?_) rfl (by kernel_rfl) (by kernel_rfl) (by kernel_rfl) (fun _ _ _ h => h) (Or.inl ⟨by rfl, ?_⟩) (by assumption) ?_
                rotate_left; focus (intro w hSw; (try dsimp only at hSw); go_simp; try (with_reducible rfl); done)
                try simp only [List.getElem_toArray, List.getElem_cons_zero, List.getElem_cons_succ, Act.put, List.setIfInBounds_toArray, List.set_cons_zero, List.set_cons_succ]
                refine wpAnyH_take (i := 11) (v := ?_) rfl (by kernel_rfl) (by kernel_rfl) (by kernel_rfl) (fun _ _ _ h => h) (Or.inl ⟨by rfl, ?_⟩) (by assumption) ?_
                rotate_left; focus (intro w hSw; (try dsimp only at hSw); go_simp; try (with_reducible rfl); done)
                try simp only [List.getElem_toArray, List.getElem_cons_zero, List.getElem_cons_succ, Act.put, List.setIfInBounds_toArray, List.set_cons_zero, List.set_cons_succ]
                refine wpAnyH_ready (rs := [12]) (by kernel_rfl) (by simp) ?_
                refine AllReadyH.cons rfl (fun K hK => ?_) AllReadyH.nil
                go_simp
                (go_at_call 118; refine HC.out.mono ?_; rintro e w8 ⟨hz, -⟩; obtain ⟨a, b, ao, n', c', rfl, hst7⟩ := hz rfl; have hst8 := HST2.out.joined hst7; simp only [List.nil_append] at hst8; clear hst7 hz; obtain ⟨g0', g1', g2'⟩ := hst8.at3 5 rfl; have c2'' := bkeep hst8.bel C2.out; have d0 := bkeep hst8.bel DD0.out; have d1 := bkeep hst8.bel DD1.out; obtain ⟨kk0, kk1, kk2⟩ := hst8.at3 0 rfl; have kf0 := (hst8.nth 0 rfl).celFree 0; have kf1 := (hst8.nth 0 rfl).celFree 1; have kf2 := (hst8.nth 0 rfl).celFree 2; have HST9 := Lib.hid (((hst8.setCel 0 (.int .i64 a)).setCel 1 (.int .i64 b)).setCel 2 (.slice ao n' c')); obtain ⟨g0'', g1'', g2''⟩ := HST9.out.at3 5 rfl; have c3' := bkeep HST9.out.bel C2.out; have d0' := bkeep HST9.out.bel DD0.out; have d1' := bkeep HST9.out.bel DD1.out; clear hst8)
                refine hK.out _ _ ?_ (fun hHeld => ?_)
                · (try dsimp only); (first | exact ⟨g0', g1', g2', c2'', d0, d1⟩ | exact ⟨g0'', g1'', g2'', c3', d0', d1'⟩ | go_keep)
                clear hK K
                try simp only [List.getElem_toArray, List.getElem_cons_zero, List.getElem_cons_succ, Act.put, List.setIfInBounds_toArray, List.set_cons_zero, List.set_cons_succ]
                refine wpAnyH_take (i := 13) (v := ?_) rfl (by kernel_rfl) (by kernel_rfl) (by kernel_rfl) (fun _ _ _ h => h) (Or.inl ⟨by rfl, ?_⟩) (by assumption) ?_
                rotate_left; focus (intro w hSw; (try dsimp only at hSw); go_simp; try (with_reducible rfl); done)
                try simp only [List.getElem_toArray, List.getElem_cons_zero, List.getElem_cons_succ, Act.put, List.setIfInBounds_toArray, List.set_cons_zero, List.set_cons_succ]
                refine wpAnyH_take (i := 14) (v := ?_) rfl (by kernel_rfl) (by kernel_rfl) (by kernel_rfl) (fun _ _ _ h => h) (Or.inl ⟨by rfl, ?_⟩) (by assumption) ?_
                rotate_left; focus (intro w hSw; (try dsimp only at hSw); go_simp; try (with_reducible rfl); done)
                try simp only [List.getElem_toArray, List.getElem_cons_zero, List.getElem_cons_succ, Act.put, List.setIfInBounds_toArray, List.set_cons_zero, List.set_cons_succ]
                refine wpAnyH_take (i := 15) (v := ?_) rfl (by kernel_rfl) (by kernel_rfl) (by kernel_rfl) (fun _ _ _ h => h) (Or.inl ⟨by rfl, ?_⟩) (by assumption) ?_
                rotate_left; focus (intro w hSw; (try dsimp only at hSw); go_simp; try (with_reducible rfl); done)
                try simp only [List.getElem_toArray, List.getElem_cons_zero, List.getElem_cons_succ, Act.put, List.setIfInBounds_toArray, List.set_cons_zero, List.set_cons_succ]
                refine wpAnyH_ready (rs := [16]) (by kernel_rfl) (by simp) ?_
                refine AllReadyH.cons rfl (fun K hK => ?_) AllReadyH.nil
                go_simp
                refine hK.out _ _ ?_ (fun hHeld => ?_)
                · (try dsimp only); (first | exact ⟨g0', g1', g2', c2'', d0, d1⟩ | exact ⟨g0'', g1'', g2'', c3', d0', d1'⟩ | go_keep)
                clear hK K
                try simp only [List.getElem_toArray, List.getElem_cons_zero, List.getElem_cons_succ, Act.put, List.setIfInBounds_toArray, List.set_cons_zero, List.set_cons_succ]
                refine wpAnyH_take (i := 17) (v := ?_) rfl (by kernel_rfl) (by kernel_rfl) (by kernel_rfl) (fun _ _ _ h => h) (Or.inl ⟨by rfl, ?_⟩) (by assumption) ?_
                rotate_left; focus (intro w hSw; (try dsimp only at hSw); go_simp; try (with_reducible rfl); done)
                try simp only [List.getElem_toArray, List.getElem_cons_zero, List.getElem_cons_succ, Act.put, List.setIfInBounds_toArray, List.set_cons_zero, List.set_cons_succ]
                refine wpAnyH_done (by kernel_rfl) ?_ _
                clear g0 g1 g2 g0' g1' g2' d0 d1 c2' c2'' g0'' g1'' g2'' d0' d1' c3' r0 r1 r2 f0 f1 f2
                obtain ⟨r0, r1, r2⟩ := HST9.out.at3 4 rfl
                have f0 := (HST9.out.nth 4 rfl).celFree 0; have f1 := (HST9.out.nth 4 rfl).celFree 1; have f2 := (HST9.out.nth 4 rfl).celFree 2
                have HSTZ := Lib.hid (((HST9.out.pick [4, 0] 6 rfl rfl).setCel 0 (.int .i64 0)).setCel 1 (.int .i64 0) |>.setCel 2 (.slice none 0 0))
                go_wp2
                obtain ⟨r0, r1, r2⟩ := HSTZ.out.at3 0 rfl
                refine bodyPost_ret (Tr.resT rfl _ _ _ rfl r0 r1 r2) rfl ?_
                refine ⟨fun _ => ⟨0, 0, none, 0, 0, rfl, HSTZ.out.pick [] 2 rfl rfl⟩, fun q hq => ?_⟩
                rw [HD.out] at hq
                cases hq
              | some q =>
                have hYq := HKS.out q rfl
                obtain ⟨ac, hc1, hc2', hc3⟩ := HSELF.out q rfl
                have hlen2 : q.2.1.length < s2.length := by rw [hc1, List.length_append]; have := List.length_pos_iff.2 hc2'; omega
                have HYQ := Lib.hid hYq.symm
                clear HSELF HKN2 HKS hc1 hc2' hc3 hst2 hYq
                go_wp2
                refine wp_region_held_drew (S := (fun w' => w'.cell? ⟨w.heap.size, 0, none⟩ = some (.int .i64 tg) ∧ w'.cell? ⟨w.heap.size, 1, none⟩ = some (.int .i64 ng) ∧ w'.cell? ⟨w.heap.size, 2, none⟩ = some (.slice (some ⟨bp, op, none⟩) l.length cp) ∧ w'.cell? ⟨bp, op + p * 2 + 1, none⟩ = some (.slice (some ⟨bb, ob, none⟩) body.length cb) ∧ w'.cell? ⟨bb, ob + k * 2, none⟩ = some (.int .i64 y1) ∧ w'.cell? ⟨bb, ob + k * 2 + 1, none⟩ = some (.int .i64 y2))) (by kernel_rfl) ?_ (fun hHeld => ?_)
                · (try dsimp only); (first | exact ⟨g0', g1', g2', c2'', d0, d1⟩ | exact ⟨g0'', g1'', g2'', c3', d0', d1'⟩ | go_keep)

                refine wpAnyH_take (i := 0) (v := ?_) rfl (by kernel_rfl) (by kernel_rfl) (by kernel_rfl) (fun _ _ _ h => h) (Or.inl ⟨by rfl, ?_⟩) (by assumption) ?_
                rotate_left; focus (intro w hSw; (try dsimp only at hSw); go_simp; try (with_reducible rfl); done)
                try simp only [List.getElem_toArray, List.getElem_cons_zero, List.getElem_cons_succ, Act.put, List.setIfInBounds_toArray, List.set_cons_zero, List.set_cons_succ]
                refine wpAnyH_take (i := 1) (v := ?_) rfl (by kernel_rfl) (by kernel_rfl) (by kernel_rfl) (fun _ _ _ h => h) (Or.inl ⟨by rfl, ?_⟩) (by assumption) ?_
                rotate_left; focus (intro w hSw; (try dsimp only at hSw); go_simp; try (with_reducible rfl); done)
                try simp only [List.getElem_toArray, List.getElem_cons_zero, List.getElem_cons_succ, Act.put, List.setIfInBounds_toArray, List.set_cons_zero, List.set_cons_succ]
                refine wpAnyH_take (i := 2) (v := ?_) rfl (by kernel_rfl) (by kernel_rfl) (by kernel_rfl) (fun _ _ _ h => h) (Or.inl ⟨by rfl, ?_⟩) (by assumption) ?_
                rotate_left; focus (intro w hSw; (try dsimp only at hSw); go_simp; try (with_reducible rfl); done)
                try simp only [List.getElem_toArray, List.getElem_cons_zero, List.getElem_cons_succ, Act.put, List.setIfInBounds_toArray, List.set_cons_zero, List.set_cons_succ]
                refine wpAnyH_take (i := 3) (v := ?_) rfl (by kernel_rfl) (by kernel_rfl) (by kernel_rfl) (fun _ _ _ h => h) (Or.inl ⟨by rfl, ?_⟩) (by assumption) ?_
                rotate_left; focus (intro w hSw; (try dsimp only at hSw); go_simp; try (with_reducible rfl); done)
                try simp only [List.getElem_toArray, List.getElem_cons_zero, List.getElem_cons_succ, Act.put, List.setIfInBounds_toArray, List.set_cons_zero, List.set_cons_succ]
                refine wpAnyH_take (i := 4) (v := ?_) rfl (by kernel_rfl) (by kernel_rfl) (by kernel_rfl) (fun _ _ _ h => h) (Or.inl ⟨by rfl, ?_⟩) (by assumption) ?_
                rotate_left; focus (intro w hSw; (try dsimp only at hSw); go_simp; try (with_reducible rfl); done)
                try simp only [List.getElem_toArray, List.getElem_cons_zero, List.getElem_cons_succ, Act.put, List.setIfInBounds_toArray, List.set_cons_zero, List.set_cons_succ]
                refine wpAnyH_take (i := 5) (v := ?_) rfl (by kernel_rfl) (by kernel_rfl) (by kernel_rfl) (fun _ _ _ h => h) (Or.inl ⟨by rfl, ?_⟩) (by assumption) ?_
                rotate_left; focus (intro w hSw; (try dsimp only at hSw); go_simp; try (with_reducible rfl); done)
                try simp only [List.getElem_toArray, List.getElem_cons_zero, List.getElem_cons_succ, Act.put, List.setIfInBounds_toArray, List.set_cons_zero, List.set_cons_succ]
                refine wpAnyH_take (i := 6) (v := ?_) rfl (by kernel_rfl) (by kernel_rfl) (by kernel_rfl) (fun _ _ _ h => h) (Or.inl ⟨by rfl, ?_⟩) (by assumption) ?_
                rotate_left; focus (intro w hSw; (try dsimp only at hSw); go_simp; try (with_reducible rfl); done)
                try simp only [List.getElem_toArray, List.getElem_cons_zero, List.getElem_cons_succ, Act.put, List.setIfInBounds_toArray, List.set_cons_zero, List.set_cons_succ]
                refine wpAnyH_take (i := 7) (v := ?_) rfl (by kernel_rfl) (by kernel_rfl) (by kernel_rfl) (fun _ _ _ h => h) (Or.inl ⟨by rfl, ?_⟩) (by assumption) ?_
                rotate_left; focus (intro w hSw; (try dsimp only at hSw); go_simp; try (with_reducible rfl); done)
                try simp only [List.getElem_toArray, List.getElem_cons_zero, List.getElem_cons_succ, Act.put, List.setIfInBounds_toArray, List.set_cons_zero, List.set_cons_succ]
                refine wpAnyH_take (i := 8) (v := ?_) rfl (by kernel_rfl) (by kernel_rfl) (by kernel_rfl) (fun _ _ _ h => h) (Or.inl ⟨by rfl, ?_⟩) (by assumption) ?_
                rotate_left; focus (intro w hSw; (try dsimp only at hSw); go_simp; try (with_reducible rfl); done)
                try simp only [List.getElem_toArray, List.getElem_cons_zero, List.getElem_cons_succ, Act.put, List.setIfInBounds_toArray, List.set_cons_zero, List.set_cons_succ]
                refine wpAnyH_take (i := 9) (v := ?_) rfl (by kernel_rfl) (by kernel_rfl) (by kernel_rfl) (fun _ _ _ h => h) (Or.inl ⟨by rfl, ?_⟩) (by assumption) ?_
                rotate_left; focus (intro w hSw; (try dsimp only at hSw); go_simp; try (with_reducible rfl); done)
                try simp only [List.getElem_toArray, List.getElem_cons_zero, List.getElem_cons_succ, Act.put, List.setIfInBounds_toArray, List.set_cons_zero, List.set_cons_succ]
                refine wpAnyH_take (i := 10) (v := ?_) rfl (by kernel_rfl) (by kernel_rfl) (by kernel_rfl) (fun _ _ _ h => h) (Or.inl ⟨by rfl, ?_⟩) (by assumption) ?_
                rotate_left; focus (intro w hSw; (try dsimp only at hSw); go_simp; try (with_reducible rfl); done)
                try simp only [List.getElem_toArray, List.getElem_cons_zero, List.getElem_cons_succ, Act.put, List.setIfInBounds_toArray, List.set_cons_zero, List.set_cons_succ]
                refine wpAnyH_take (i := 11) (v := ?_) rfl (by kernel_rfl) (by kernel_rfl) (by kernel_rfl) (fun _ _ _ h => h) (Or.inl ⟨by rfl, ?_⟩) (by assumption) ?_
                rotate_left; focus (intro w hSw; (try dsimp only at hSw); go_simp; try (with_reducible rfl); done)
                try simp only [List.getElem_toArray, List.getElem_cons_zero, List.getElem_cons_succ, Act.put, List.setIfInBounds_toArray, List.set_cons_zero, List.set_cons_succ]
                refine wpAnyH_ready (rs := [12]) (by kernel_rfl) (by simp) ?_
                refine AllReadyH.cons rfl (fun K hK => ?_) AllReadyH.nil
                go_simp
                (go_at_call 118; refine HC.out.mono ?_; rintro e w8 ⟨-, hz⟩; obtain ⟨ao, n', c', at', fp, rfl, h1, h2, h4, h5, hst7⟩ := hz q rfl; have HAT := Lib.hid h1; have hst8 := (HST2.out.joined hst7).pick [1, 0, 2, 3, 4, 5, 6] 7 rfl rfl; clear hst7 hz h1; obtain ⟨g0', g1', g2'⟩ := hst8.at3 6 rfl; have c2'' := bkeep hst8.bel C2.out; have d0 := bkeep hst8.bel DD0.out; have d1 := bkeep hst8.bel DD1.out; obtain ⟨kk0, kk1, kk2⟩ := hst8.at3 0 rfl; have kf0 := (hst8.nth 0 rfl).celFree 0; have kf1 := (hst8.nth 0 rfl).celFree 1; have kf2 := (hst8.nth 0 rfl).celFree 2; have HST9 := Lib.hid (((hst8.setCel 0 (.int .i64 q.1.prod)).setCel 1 (.int .i64 q.1.tok)).setCel 2 (.slice ao n' c')); obtain ⟨g0'', g1'', g2''⟩ := HST9.out.at3 6 rfl; have c3' := bkeep HST9.out.bel C2.out; have d0' := bkeep HST9.out.bel DD0.out; have d1' := bkeep HST9.out.bel DD1.out; clear hst8)
                refine hK.out _ _ ?_ (fun hHeld => ?_)
                · (try dsimp only); (first | exact ⟨g0', g1', g2', c2'', d0, d1⟩ | exact ⟨g0'', g1'', g2'', c3', d0', d1'⟩ | go_keep)
                clear hK K
                try simp only [List.getElem_toArray, List.getElem_cons_zero, List.getElem_cons_succ, Act.put, List.setIfInBounds_toArray, List.set_cons_zero, List.set_cons_succ]
                refine wpAnyH_take (i := 13) (v := ?_) rfl (by kernel_rfl) (by kernel_rfl) (by kernel_rfl) (fun _ _ _ h => h) (Or.inl ⟨by rfl, ?_⟩) (by assumption) ?_
                rotate_left; focus (intro w hSw; (try dsimp only at hSw); go_simp; try (with_reducible rfl); done)
                try simp only [List.getElem_toArray, List.getElem_cons_zero, List.getElem_cons_succ, Act.put, List.setIfInBounds_toArray, List.set_cons_zero, List.set_cons_succ]
                refine wpAnyH_take (i := 14) (v := ?_) rfl (by kernel_rfl) (by kernel_rfl) (by kernel_rfl) (fun _ _ _ h => h) (Or.inl ⟨by rfl, ?_⟩) (by assumption) ?_
                rotate_left; focus (intro w hSw; (try dsimp only at hSw); go_simp; try (with_reducible rfl); done)
                try simp only [List.getElem_toArray, List.getElem_cons_zero, List.getElem_cons_succ, Act.put, List.setIfInBounds_toArray, List.set_cons_zero, List.set_cons_succ]
                refine wpAnyH_take (i := 15) (v := ?_) rfl (by kernel_rfl) (by kernel_rfl) (by kernel_rfl) (fun _ _ _ h => h) (Or.inl ⟨by rfl, ?_⟩) (by assumption) ?_
                rotate_left; focus (intro w hSw; (try dsimp only at hSw); go_simp; try (with_reducible rfl); done)
                try simp only [List.getElem_toArray, List.getElem_cons_zero, List.getElem_cons_succ, Act.put, List.setIfInBounds_toArray, List.set_cons_zero, List.set_cons_succ]
                refine wpAnyH_ready (rs := [16]) (by kernel_rfl) (by simp) ?_
                refine AllReadyH.cons rfl (fun K hK => ?_) AllReadyH.nil
                go_simp
                refine hK.out _ _ ?_ (fun hHeld => ?_)
                · (try dsimp only); (first | exact ⟨g0', g1', g2', c2'', d0, d1⟩ | exact ⟨g0'', g1'', g2'', c3', d0', d1'⟩ | go_keep)
                clear hK K
                try simp only [List.getElem_toArray, List.getElem_cons_zero, List.getElem_cons_succ, Act.put, List.setIfInBounds_toArray, List.set_cons_zero, List.set_cons_succ]
                refine wpAnyH_take (i := 17) (v := ?_) rfl (by kernel_rfl) (by kernel_rfl) (by kernel_rfl) (fun _ _ _ h => h) (Or.inl ⟨by rfl, ?_⟩) (by assumption) ?_
                rotate_left; focus (intro w hSw; (try dsimp only at hSw); go_simp; try (with_reducible rfl); done)
                try simp only [List.getElem_toArray, List.getElem_cons_zero, List.getElem_cons_succ, Act.put, List.setIfInBounds_toArray, List.set_cons_zero, List.set_cons_succ]
                refine wpAnyH_done (by kernel_rfl) ?_ _
                clear g0 g1 g2 g0' g1' g2' d0 d1 c2' c2'' g0'' g1'' g2'' d0' d1' c3'
                have HOKN : Hid (∀ z ∈ L ++ [((q.1, .slice ao n' c', fp) : Tr.K3)], Tr.KidOk z) := Lib.hid (fun q' hq => by
                  rcases List.mem_append.1 hq with hq | hq
                  · exact HOK.out q' hq
                  · rw [List.mem_singleton.1 hq]; exact ⟨h4, h5, ao, n', c', rfl⟩)
                obtain ⟨k0, k1, k2⟩ := HST9.out.at3 0 rfl
                obtain ⟨o0, o1, o2⟩ := HST9.out.at3 4 rfl
                have HSTA := Lib.hid (HST9.out.pick [2, 1, 3, 4, 5, 6] 7 rfl rfl)
                go_wp2_with (refine St.app1n (o := ⟨some 109, _, _, _, _, _⟩) Tr.treeE ?h1_1 (.tmp 106) (.tmp 108) ?h1_2 ?h1_3 HSTA.out (Tr.kidV (q.1, .slice ao n' c', fp)) ?h1_4 w8.heap.size 1 ?h1_5 ?h1_6 ?h1_7 ?h1_8 ?h1_9 ?h1_10 ?h1_11; (case h1_1 => rfl); (case h1_2 => rfl); (case h1_7 => rfl); (case h1_4 => rfl); (case h1_3 => rfl); (case h1_5 => rfl); (case h1_6 => simp); (case h1_8 => exact Tr.kidOne (HOKN.out _ (List.mem_append.2 (.inr (.head _))))); (case h1_9 => (rw [List.length_map, HL0.out]; unfold maxLen; omega)); (case h1_10 => (rw [List.length_map, HL0.out]; omega)); intro g' n2 c2' w5 hst5; obtain ⟨o0, o1, o2⟩ := hst5.at3 3 rfl; have fo := (hst5.nth 3 rfl).celFree 2; have HST5 := Lib.hid ((hst5.pick [3, 0, 1, 2, 4, 5] 6 rfl rfl).setCel 2 (.slice (some ⟨g', 0, none⟩) n2 c2')); clear hst5 HSTA k0 k1 k2)
                have HST6 := Lib.hid ((HST5.out.pick [2, 3, 1, 0, 4, 5] 6 rfl rfl).snoc.pick [1, 0, 2, 3, 4] 5 rfl rfl)
                go_roundg (body.length - (k + 1))
                case measure => have := HGK.out; omega
                case rel => exact ⟨k + 1, L ++ [(q.1, .slice ao n' c', fp)], q.2.1, at', q.2.2, .slice (some ⟨g', 0, none⟩) n2 c2', by omega, rfl, by go_num, rfl, Lib.hid (by rw [List.length_append, HL0.out]; rfl), HOKN, HAT, h2, by omega, by rw [List.map_append]; exact HYQ, by rw [List.map_append, List.map_append]; exact HST6.out⟩
            · obtain rfl : k = body.length := by omega
              have hY := HY.out
              rw [Tr.dnK_end] at hY
              subst hY
              obtain ⟨fp, hstS⟩ := Tr.sealKids hst HOK.out (by rw [HL0.out]; omega)
              have HFIN := Lib.hid (((hstS.pick [2, 0] 4 rfl rfl).setCel 0 (.int .i64 p)).setCel 1 (.int .i64 0) |>.setCel 2 (.slice av body.length cv))
              have HZER := Lib.hid (((hstS.pick [2] 4 rfl rfl).setCel 0 (.int .i64 0)).setCel 1 (.int .i64 0) |>.setCel 2 (.slice none 0 0))
              have hbl := hst.bel
              by_cases hlt7 : at2 < E.length
              · obtain ⟨d0, d1, -, -⟩ := L4.out at2 hlt7
                have hs2 := HS2.out
                rw [Gr.drop_at E (0, 0) at2 hlt7] at hs2
                have d0 := bkeep hbl d0
                have d1 := bkeep hbl d1
                have hlt8 : (at2 : Int) < E.length := by omega
                generalize E.getD at2 (0, 0) = e' at *
                by_cases hm : e'.1 = 3 ∧ e'.2 = (p : Int)
                · have HD := Lib.hid (HKY.out _ e' (E.drop (at2 + 1)) c2 (by rw [hs2]) hm)
                  obtain ⟨e1', e2'⟩ := e'
                  simp only at hm d0 d1
                  obtain ⟨rfl, rfl⟩ := hm
                  clear hst hstS HKN HKY HKM hs2 HY HOK hbl
                  go_wp2
                  obtain ⟨r0, r1, r2⟩ := HFIN.out.at3 0 rfl
                  refine bodyPost_ret (Tr.resT rfl _ _ _ rfl r0 r1 r2) rfl ?_
                  refine ⟨fun h => (by rw [HD.out] at h; cases h), fun q hq => ?_⟩
                  rw [HD.out] at hq
                  cases hq
                  exact ⟨av, body.length, cv, at2 + 1, fp, rfl, rfl, hlt7, ⟨by have := HL.out; simp only [Tr.prod]; omega, by have := HL.out; simp only [Tr.prod]; omega⟩, ⟨by simp only [Tr.tok]; omega, by simp only [Tr.tok]; omega⟩, HFIN.out.pick [1] 2 rfl rfl⟩
                · have HD := Lib.hid (HKM.out _ s2 c2 rfl (fun e2 s4 h => by rw [← hs2] at h; obtain ⟨h1, -⟩ := List.cons.inj h; rw [← h1]; exact hm))
                  obtain ⟨e1', e2'⟩ := e'
                  simp only at hm d0 d1
                  by_cases ha : e1' = 3
                  · subst ha
                    have hb : (e2' == (p : Int)) = false := by rw [beq_eq_false_iff_ne]; intro h; exact hm ⟨rfl, h⟩
                    have hb2 : ¬ e2' = (p : Int) := fun h => hm ⟨rfl, h⟩
                    clear hm
                    clear hst hstS HKN HKY HKM hs2 HY HOK hbl
                    go_wp2
                    obtain ⟨r0, r1, r2⟩ := HZER.out.at3 0 rfl
                    refine bodyPost_ret (Tr.resT rfl _ _ _ rfl r0 r1 r2) rfl ?_
                    refine ⟨fun _ => ⟨0, 0, none, 0, 0, rfl, HZER.out.pick [] 1 rfl rfl⟩, fun q hq => ?_⟩
                    rw [HD.out] at hq
                    cases hq
                  · have hb : (e1' == 3) = false := by rw [beq_eq_false_iff_ne]; exact ha
                    clear hm
                    clear hst hstS HKN HKY HKM hs2 HY HOK hbl
                    go_wp2
                    obtain ⟨r0, r1, r2⟩ := HZER.out.at3 0 rfl
                    refine bodyPost_ret (Tr.resT rfl _ _ _ rfl r0 r1 r2) rfl ?_
                    refine ⟨fun _ => ⟨0, 0, none, 0, 0, rfl, HZER.out.pick [] 1 rfl rfl⟩, fun q hq => ?_⟩
                    rw [HD.out] at hq
                    cases hq
              · have HD := Lib.hid (HKM.out _ s2 c2 rfl (fun e2 s4 h => by have := HS2.out; rw [List.drop_eq_nil_of_le (by omega)] at this; rw [← this] at h; cases h))
                have hge : (E.length : Int) ≤ at2 := by omega
                clear hst hstS HKN HKY HKM HY HOK hbl
                go_wp2
                obtain ⟨r0, r1, r2⟩ := HZER.out.at3 0 rfl
                refine bodyPost_ret (Tr.resT rfl _ _ _ rfl r0 r1 r2) rfl ?_
                refine ⟨fun _ => ⟨0, 0, none, 0, 0, rfl, HZER.out.pick [] 1 rfl rfl⟩, fun q hq => ?_⟩
                rw [HD.out] at hq
                cases hq
        · have HD := Lib.hid (Tr.dn_bad (chk := false) (G := l) (f := f) (c := c) (x := (x1, x2)) (e := (e1, e2)) (s := E.drop (at_ + 1)) hx hgood)
          have HSN := Lib.hid (fun n => HST.out.drewN n)
          clear hs hi0 hi1 hsf
          by_cases h1 : e1 = 1
          · subst h1
            by_cases hn0 : e2 < 0
            · go_enter Try.func118, Try.ntmps118
              go_wp2
              go_quiet (fail)
              have HS9 := Lib.hid (HSN.out nq)
              clear HSN r0 r1 r2 f0 f1 f2
              generalize World.drewN _ _ = w9 at *
              obtain ⟨r0, r1, r2, f0, f1, f2⟩ := HS9.out.cel3
              have HSTE := Lib.hid (((HS9.out.setCel 0 (.int .i64 0)).setCel 1 (.int .i64 0)).setCel 2 (.slice none 0 0))
              go_wp2
              obtain ⟨r0, r1, r2⟩ := HSTE.out.at3 0 rfl
              refine bodyPost_ret (Tr.resT rfl _ _ _ rfl r0 r1 r2) rfl ?_
              refine ⟨fun _ => ⟨0, 0, none, 0, 0, rfl, HSTE.out.pick [] 3 rfl rfl⟩, fun q hq => ?_⟩
              rw [HD.out] at hq
              cases hq
            have hn0' : decide (e2 < 0) = false := decide_eq_false hn0
            obtain ⟨p, rfl⟩ := Int.eq_ofNat_of_zero_le (by omega : 0 ≤ e2)
            by_cases hn1 : (l.length : Int) ≤ p
            · go_enter Try.func118, Try.ntmps118
              go_wp2
              go_quiet (fail)
              have HS9 := Lib.hid (HSN.out nq)
              clear HSN r0 r1 r2 f0 f1 f2
              generalize World.drewN _ _ = w9 at *
              obtain ⟨r0, r1, r2, f0, f1, f2⟩ := HS9.out.cel3
              have HSTE := Lib.hid (((HS9.out.setCel 0 (.int .i64 0)).setCel 1 (.int .i64 0)).setCel 2 (.slice none 0 0))
              go_wp2
              obtain ⟨r0, r1, r2⟩ := HSTE.out.at3 0 rfl
              refine bodyPost_ret (Tr.resT rfl _ _ _ rfl r0 r1 r2) rfl ?_
              refine ⟨fun _ => ⟨0, 0, none, 0, 0, rfl, HSTE.out.pick [] 3 rfl rfl⟩, fun q hq => ?_⟩
              rw [HD.out] at hq
              cases hq
            have hlt3 : p < l.length := by omega
            have hn1' : decide (l.length ≤ p) = false := decide_eq_false (by omega)
            obtain ⟨rfl, -, -⟩ := P3.out (by omega)
            obtain ⟨vb, c1, c2, -, -⟩ := P4.out p hlt3
            rw [Int.toNat_natCast] at hgood
            generalize (l.getD p (0, [])).1 = h0 at *
            have hne : (h0 != x2) = true := by rw [bne_iff_ne]; intro h; exact hgood ⟨rfl, by omega, by omega, h⟩
            have hlt4 : (p : Int) < l.length := by omega
            have c1 := bkeep HST.out.bel c1
            clear c2 hgood
            go_enter Try.func118, Try.ntmps118
            go_wp2
            go_quiet (fail)
            have HS9 := Lib.hid (HSN.out nq)
            clear HSN r0 r1 r2 f0 f1 f2
            generalize World.drewN _ _ = w9 at *
            obtain ⟨r0, r1, r2, f0, f1, f2⟩ := HS9.out.cel3
            have HSTE := Lib.hid (((HS9.out.setCel 0 (.int .i64 0)).setCel 1 (.int .i64 0)).setCel 2 (.slice none 0 0))
            go_wp2
            obtain ⟨r0, r1, r2⟩ := HSTE.out.at3 0 rfl
            refine bodyPost_ret (Tr.resT rfl _ _ _ rfl r0 r1 r2) rfl ?_
            refine ⟨fun _ => ⟨0, 0, none, 0, 0, rfl, HSTE.out.pick [] 3 rfl rfl⟩, fun q hq => ?_⟩
            rw [HD.out] at hq
            cases hq
          · have h1b : (e1 != 1) = true := by simpa using h1
            clear hgood
            go_enter Try.func118, Try.ntmps118
            go_wp2
            go_quiet (fail)
            have HS9 := Lib.hid (HSN.out nq)
            clear HSN r0 r1 r2 f0 f1 f2
            generalize World.drewN _ _ = w9 at *
            obtain ⟨r0, r1, r2, f0, f1, f2⟩ := HS9.out.cel3
            have HSTE := Lib.hid (((HS9.out.setCel 0 (.int .i64 0)).setCel 1 (.int .i64 0)).setCel 2 (.slice none 0 0))
            go_wp2
            obtain ⟨r0, r1, r2⟩ := HSTE.out.at3 0 rfl
            refine bodyPost_ret (Tr.resT rfl _ _ _ rfl r0 r1 r2) rfl ?_
            refine ⟨fun _ => ⟨0, 0, none, 0, 0, rfl, HSTE.out.pick [] 3 rfl rfl⟩, fun q hq => ?_⟩
            rw [HD.out] at hq
            cases hq
    · obtain rfl : s = [] := by rw [← hs]; exact List.drop_eq_nil_of_le (by omega)
      have hge : (E.length : Int) ≤ at_ := by omega
      clear hs hsf
      go_enter Try.func118, Try.ntmps118
      go_wp2
      obtain ⟨r0, r1, r2⟩ := HZERO.out.at3 0 rfl
      refine bodyPost_ret (Tr.resT rfl _ _ _ rfl r0 r1 r2) rfl ?_
      exact ⟨fun _ => ⟨0, 0, none, 0, 0, rfl, HZERO.out.pick [] 3 rfl rfl⟩, fun q hq => by cases hq⟩
end Go.Proofs.Ytldapomcjfkeeaa
