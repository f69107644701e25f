/-
  each of package trees: all that a tree's nodes put.
-/
import Derived.Test.YtldapomcjfkeeaaTrFn
import Derived.Deep.LoopGhost
namespace Go.Proofs.Ytldapomcjfkeeaa
set_option linter.unusedVariables false
set_option linter.unusedSimpArgs false
open Go.ChangeShapes Go.WideShapes Go.ChangeAt Go.RowKit

namespace Tr
theorem flat_take_le {α β : Type} (l : List α) (f : α → List β) (k : Nat) : ((l.take k).flatMap f).length ≤ (l.flatMap f).length := by
  have h := List.take_append_drop k l
  conv => rhs; rw [← h, List.flatMap_append, List.length_append]
  omega
end Tr

set_option maxRecDepth 100000 in
set_option maxHeartbeats 8000000 in
theorem trEach_any {β : Type} (w0 : World) (gO : Nat) (T e : TypeId) (size : Nat) (f : β → Value) (A : Asrt) (ca cb cl : Nat) (capsA capsB capsL : Array Value) (fA fB : Int → List β) (fL : Int → Int → List β) (HA : Tr.Puts1 w0 gO T e size f A ca capsA fA) (HB : Tr.Puts1 w0 gO T e size f A cb capsB fB) (HL : Tr.Puts2 w0 gO T e size f A cl capsL fL)
    (tg ng : Int) (vp : Value) (l : List (Int × List (Int × Int))) (F : Nat → Prop) (hp : Enc.prods.R F w0 [vp] l) (hl : l.length ≤ 40) :
    ∀ (n : Nat) (t : Tr) (cs : Array Value) (out : List β) (μ : List Asrt) (w : World), (Tr.enc n).R F w0 cs.toList t → Tr.Ok l n t → out.length + (Tr.eachL fA fB fL l n t).length ≤ 5000 → Tr.Acc w0 gO T e size f A out μ w →
      Calls Try.prog 93 #[.agg #[.int .i64 tg, .int .i64 ng, vp], .agg cs, .func (.func ca) #[] capsA, .func (.func cb) #[] capsB, .func (.func cl) #[] capsL] w fun e' w' => e' = .returned (.tuple #[]) ∧ Tr.Acc w0 gO T e size f A (out ++ Tr.eachL fA fB fL l n t) μ w' := by
  obtain ⟨-, hca, HA⟩ := HA
  obtain ⟨-, hcb, HB⟩ := HB
  obtain ⟨-, hcl, HL⟩ := HL
  have HA := Lib.hid HA; have HB := Lib.hid HB; have HL := Lib.hid HL
  obtain ⟨ap, bp, op, cp, rfl, -, p3, p4⟩ := slProds hp
  have P3 := Lib.hid p3; have P4 := Lib.hid p4; have HL40 := Lib.hid hl
  clear p3 p4 hp hl
  intro n
  induction n with
  | zero => intro t cs out μ w h; exact h.elim
  | succ n ih =>
    intro t cs out μ w ht hok hlen hacc
    obtain ⟨m, hm, vk, hcs, ⟨hp0, hp1⟩, ⟨hk0, hk1⟩, hk⟩ := Tr.opened ht
    obtain rfl : n = m := by omega
    obtain rfl : cs = #[.int .i64 t.prod, .int .i64 t.tok, vk] := Array.toList_inj.1 hcs
    obtain ⟨ak, bk, ok, ck, rfl, hkl, k3, k4⟩ := Tr.kidsAt hk
    obtain ⟨hpr0, hpr1, hkb, hkids⟩ := hok
    have hE : Tr.eachL fA fB fL l (n + 1) t = fA t.prod ++ (t.kids.zip (l.getD t.prod.toNat (0, [])).2).flatMap (fun q => if q.1.prod < 0 then fL q.2.2 q.1.tok else Tr.eachL fA fB fL l n q.1) ++ fB t.prod := rfl
    rw [hE] at hlen ⊢
    have HKID := Lib.hid (fun i (hi : i < t.kids.length) => hkids (t.kids.getD i Tr.nil) (by simp [List.getD, List.getElem?_eq_getElem hi]))
    have K3 := Lib.hid k3; have K4 := Lib.hid k4; have IH := Lib.hid ih
    clear hm hcs ht hk k3 k4 ih hE hkids
    generalize t.prod = pr at *
    generalize t.tok = tk at *
    generalize t.kids = ks at *
    obtain ⟨p, rfl⟩ := Int.eq_ofNat_of_zero_le hpr0
    rw [Int.toNat_natCast] at hlen hkb ⊢
    have hlt : p < l.length := by omega
    obtain ⟨rfl, -, -⟩ := P3.out (by omega)
    obtain ⟨vb, c1, c2, hbody, -⟩ := P4.out p hlt
    obtain ⟨ab, bb, ob, cb', rfl, -, b3, b4⟩ := slTwo hbody
    generalize l.getD p (0, []) = pp at *
    obtain ⟨h0, body⟩ := pp
    simp only at c1 c2 hkb b3 b4 hlen ⊢
    obtain ⟨G, hG⟩ : ∃ G, (fun q : Tr × (Int × Int) => if q.1.prod < 0 then fL q.2.2 q.1.tok else Tr.eachL fA fB fL l n q.1) = G := ⟨_, rfl⟩
    rw [hG] at hlen ⊢
    have HG := Lib.hid hG
    have C2 := Lib.hid c2; have B3 := Lib.hid b3; have B4 := Lib.hid b4; have HKB := Lib.hid hkb
    rw [List.length_append, List.length_append] at hlen
    obtain ⟨XA, hXA⟩ : ∃ X, (ks.zip body).flatMap G = X := ⟨_, rfl⟩
    rw [hXA] at hlen ⊢
    have HXA := Lib.hid hXA
    have hlt2 : (p : Int) < l.length := by omega
    have H1 := Lib.hid (HA.out out p _ _ (by omega) ((hacc.alloc #[.int .i64 tg, .int .i64 ng, .slice (some ⟨bp, op, none⟩) l.length cp] 68).alloc #[.int .i64 p, .int .i64 tk, .slice ak ks.length ck] 71))
    simp only [World.size_alloc] at H1
    have HLEN := Lib.hid hlen
    clear hacc hG hXA hkb b3 b4 hbody c1 c2 hlen hpr0 hpr1 hp0 hp1
    go_enter Try.func93, Try.ntmps93
    go_wp2_with (fail)
    refine H1.out.mono ?_
    rintro e1 w1 ⟨rfl, v1, hst1⟩
    obtain ⟨z0, z1, z2⟩ := hst1.at3 3 rfl
    have HST1 := Lib.hid hst1
    clear hst1 H1
    go_wp2
    go_loopg [19] ks.length (fun gk i wr => ∃ (k : Nat) (X : List β), k ≤ ks.length ∧ gk = ks.length - k ∧ i = .int .i64 k ∧ Hid (((ks.zip body).take k).flatMap G = X) ∧ Tr.Acc w0 gO T e size f A (out ++ fA p ++ X) (aCel (w.heap.size + 1) 71 #[.int .i64 p, .int .i64 tk, .slice ak ks.length ck] :: aCel w.heap.size 68 #[.int .i64 tg, .int .i64 ng, .slice (some ⟨bp, op, none⟩) l.length cp] :: μ) wr)
    case atStart => exact ⟨0, [], by omega, by omega, rfl, Lib.hid rfl, v1, by rw [List.append_nil]; exact HST1.out⟩
    case round =>
      clear HST1 z0 z1 z2 v1
      obtain ⟨k, X, hk, hgk, rfl, HX, v1, hst⟩ := hrel
      have HGK := Lib.hid hgk
      clear hgk
      by_cases hlt3 : k < ks.length
      · have hkb : k < body.length := by have := HKB.out; omega
        obtain ⟨rfl, -, -⟩ := K3.out (by omega)
        obtain ⟨ka, kc, d0, d1, d2, hkid⟩ := K4.out k hlt3
        obtain ⟨rfl, -, -⟩ := B3.out (by omega)
        obtain ⟨e0, e1, -, -⟩ := B4.out k hkb
        have hstep := Tr.zip_take hlt3 hkb Tr.nil (0, 0) G
        rw [HX.out] at hstep
        have hle := Tr.flat_take_le (ks.zip body) G (k + 1)
        rw [HXA.out, hstep, List.length_append] at hle
        have hgv := (congrFun HG.out (ks.getD k Tr.nil, body.getD k (0, 0))).symm
        simp only at hgv
        have hkk := HKID.out k hlt3
        have hLN := HLEN.out
        generalize body.getD k (0, 0) = y at *
        obtain ⟨y1, y2⟩ := y
        simp only at e0 e1 hgv
        have HSTEP := Lib.hid hstep
        clear hstep e0
        have d0 := bkeep hst.bel d0
        have d1 := bkeep hst.bel d1
        have d2 := bkeep hst.bel d2
        have E1 := Lib.hid e1
        clear e1
        have hlt4 : (k : Int) < ks.length := by omega
        have hkb4 : (k : Int) < body.length := by omega
        have hst2 := hst.alloc #[.int .i64 (ks.getD k Tr.nil).prod, .int .i64 (ks.getD k Tr.nil).tok, .slice ka (ks.getD k Tr.nil).kids.length kc] 71
        obtain ⟨z0, z1, z2⟩ := hst2.at3 4 rfl
        obtain ⟨g0, g1, g2⟩ := hst2.at3 5 rfl
        obtain ⟨x0, x1, x2⟩ := hst2.at3 0 rfl
        have hbel2 := hst2.bel
        have hacc2 : Tr.Acc w0 gO T e size f A (out ++ fA p ++ X) (aCel wr.heap.size 71 #[.int .i64 (ks.getD k Tr.nil).prod, .int .i64 (ks.getD k Tr.nil).tok, .slice ka (ks.getD k Tr.nil).kids.length kc] :: aCel (w.heap.size + 1) 71 #[.int .i64 p, .int .i64 tk, .slice (some ⟨bk, ok, none⟩) ks.length ck] :: aCel w.heap.size 68 #[.int .i64 tg, .int .i64 ng, .slice (some ⟨bp, op, none⟩) l.length cp] :: μ) (wr.alloc (.cells #[.int .i64 (ks.getD k Tr.nil).prod, .int .i64 (ks.getD k Tr.nil).tok, .slice ka (ks.getD k Tr.nil).kids.length kc] 71)) := ⟨v1, hst2.pick [1, 2, 3, 0, 4, 5] 6 rfl rfl⟩
        have HACC2 := Lib.hid hacc2
        have HBEL2 := Lib.hid hbel2
        clear hst hst2 hacc2 hbel2
        by_cases hneg : (ks.getD k Tr.nil).prod < 0
        · rw [if_pos hneg] at hgv
          rw [hgv] at hle HSTEP
          have hcon := HL.out (out ++ fA p ++ X) y2 (ks.getD k Tr.nil).tok _ _ (by rw [List.length_append, List.length_append]; omega) HACC2.out.drew
          have HCON := Lib.hid hcon
          have HHG := Lib.hid hle
          generalize (ks.getD k Tr.nil).prod = kp at *
          generalize (ks.getD k Tr.nil).tok = kt at *
          generalize (ks.getD k Tr.nil).kids.length = kl at *
          clear hcon hgv hkid hkk hle HACC2
          go_wp2
          have c2 := bkeep HBEL2.out C2.out
          have e1 := bkeep HBEL2.out E1.out
          clear x0 x2 g0 g1 z1 z2 d0 d1 d2
          refine wp_region_held_drew (S := (fun w' => w'.cell? ⟨w.heap.size, 2, none⟩ = some (.slice (some ⟨bp, op, none⟩) l.length cp) ∧ w'.cell? ⟨w.heap.size + 1, 0, none⟩ = some (.int .i64 p) ∧ w'.cell? ⟨bp, op + p * 2 + 1, none⟩ = some (.slice (some ⟨bb, ob, none⟩) body.length cb') ∧ w'.cell? ⟨bb, ob + k * 2 + 1, none⟩ = some (.int .i64 y2) ∧ w'.cell? ⟨wr.heap.size, 1, none⟩ = some (.int .i64 kt))) (by kernel_rfl) ?_ (fun hHeld => ?_)
          · (try dsimp only); (first | exact ⟨g2, z0, c2, e1, x1⟩ | go_keep)

          refine wpAnyH_take (i := 0) (v := ?_) rfl (by kernel_rfl) (by kernel_rfl) (by kernel_rfl) (fun _ _ _ h => h) (Or.inl ⟨by rfl, ?_⟩) (by assumption) ?_
          rotate_left; focus (intro w hSw; (try dsimp only at hSw); go_simp; try (with_reducible rfl); done)
          try simp only [List.getElem_toArray, List.getElem_cons_zero, List.getElem_cons_succ, Act.put, List.setIfInBounds_toArray, List.set_cons_zero, List.set_cons_succ]
          refine wpAnyH_take (i := 1) (v := ?_) rfl (by kernel_rfl) (by kernel_rfl) (by kernel_rfl) (fun _ _ _ h => h) (Or.inl ⟨by rfl, ?_⟩) (by assumption) ?_
          rotate_left; focus (intro w hSw; (try dsimp only at hSw); go_simp; try (with_reducible rfl); done)
          try simp only [List.getElem_toArray, List.getElem_cons_zero, List.getElem_cons_succ, Act.put, List.setIfInBounds_toArray, List.set_cons_zero, List.set_cons_succ]
          refine wpAnyH_take (i := 2) (v := ?_) rfl (by kernel_rfl) (by kernel_rfl) (by kernel_rfl) (fun _ _ _ h => h) (Or.inl ⟨by rfl, ?_⟩) (by assumption) ?_
          rotate_left; focus (intro w hSw; (try dsimp only at hSw); go_simp; try (with_reducible rfl); done)
          try simp only [List.getElem_toArray, List.getElem_cons_zero, List.getElem_cons_succ, Act.put, List.setIfInBounds_toArray, List.set_cons_zero, List.set_cons_succ]
          refine wpAnyH_take (i := 3) (v := ?_) rfl (by kernel_rfl) (by kernel_rfl) (by kernel_rfl) (fun _ _ _ h => h) (Or.inl ⟨by rfl, ?_⟩) (by assumption) ?_
          rotate_left; focus (intro w hSw; (try dsimp only at hSw); go_simp; try (with_reducible rfl); done)
          try simp only [List.getElem_toArray, List.getElem_cons_zero, List.getElem_cons_succ, Act.put, List.setIfInBounds_toArray, List.set_cons_zero, List.set_cons_succ]
          refine wpAnyH_take (i := 4) (v := ?_) rfl (by kernel_rfl) (by kernel_rfl) (by kernel_rfl) (fun _ _ _ h => h) (Or.inl ⟨by rfl, ?_⟩) (by assumption) ?_
          rotate_left; focus (intro w hSw; (try dsimp only at hSw); go_simp; try (with_reducible rfl); done)
          try simp only [List.getElem_toArray, List.getElem_cons_zero, List.getElem_cons_succ, Act.put, List.setIfInBounds_toArray, List.set_cons_zero, List.set_cons_succ]
          refine wpAnyH_take (i := 5) (v := ?_) rfl (by kernel_rfl) (by kernel_rfl) (by kernel_rfl) (fun _ _ _ h => h) (Or.inl ⟨by rfl, ?_⟩) (by assumption) ?_
          rotate_left; focus (intro w hSw; (try dsimp only at hSw); go_simp; try (with_reducible rfl); done)
          try simp only [List.getElem_toArray, List.getElem_cons_zero, List.getElem_cons_succ, Act.put, List.setIfInBounds_toArray, List.set_cons_zero, List.set_cons_succ]
          refine wpAnyH_take (i := 6) (v := ?_) rfl (by kernel_rfl) (by kernel_rfl) (by kernel_rfl) (fun _ _ _ h => h) (Or.inl ⟨by rfl, ?_⟩) (by assumption) ?_
          rotate_left; focus (intro w hSw; (try dsimp only at hSw); go_simp; try (with_reducible rfl); done)
          try simp only [List.getElem_toArray, List.getElem_cons_zero, List.getElem_cons_succ, Act.put, List.setIfInBounds_toArray, List.set_cons_zero, List.set_cons_succ]
          refine wpAnyH_take (i := 7) (v := ?_) rfl (by kernel_rfl) (by kernel_rfl) (by kernel_rfl) (fun _ _ _ h => h) (Or.inl ⟨by rfl, ?_⟩) (by assumption) ?_
          rotate_left; focus (intro w hSw; (try dsimp only at hSw); go_simp; try (with_reducible rfl); done)
          try simp only [List.getElem_toArray, List.getElem_cons_zero, List.getElem_cons_succ, Act.put, List.setIfInBounds_toArray, List.set_cons_zero, List.set_cons_succ]
          refine wpAnyH_take (i := 8) (v := ?_) rfl (by kernel_rfl) (by kernel_rfl) (by kernel_rfl) (fun _ _ _ h => h) (Or.inl ⟨by rfl, ?_⟩) (by assumption) ?_
          rotate_left; focus (intro w hSw; (try dsimp only at hSw); go_simp; try (with_reducible rfl); done)
          try simp only [List.getElem_toArray, List.getElem_cons_zero, List.getElem_cons_succ, Act.put, List.setIfInBounds_toArray, List.set_cons_zero, List.set_cons_succ]
          refine wpAnyH_take (i := 9) (v := ?_) rfl (by kernel_rfl) (by kernel_rfl) (by kernel_rfl) (fun _ _ _ h => h) (Or.inl ⟨by rfl, ?_⟩) (by assumption) ?_
          rotate_left; focus (intro w hSw; (try dsimp only at hSw); go_simp; try (with_reducible rfl); done)
          try simp only [List.getElem_toArray, List.getElem_cons_zero, List.getElem_cons_succ, Act.put, List.setIfInBounds_toArray, List.set_cons_zero, List.set_cons_succ]
          refine wpAnyH_take (i := 10) (v := ?_) rfl (by kernel_rfl) (by kernel_rfl) (by kernel_rfl) (fun _ _ _ h => h) (Or.inl ⟨by rfl, ?_⟩) (by assumption) ?_
          rotate_left; focus (intro w hSw; (try dsimp only at hSw); go_simp; try (with_reducible rfl); done)
          try simp only [List.getElem_toArray, List.getElem_cons_zero, List.getElem_cons_succ, Act.put, List.setIfInBounds_toArray, List.set_cons_zero, List.set_cons_succ]
          refine wpAnyH_take (i := 11) (v := ?_) rfl (by kernel_rfl) (by kernel_rfl) (by kernel_rfl) (fun _ _ _ h => h) (Or.inl ⟨by rfl, ?_⟩) (by assumption) ?_
          rotate_left; focus (intro w hSw; (try dsimp only at hSw); go_simp; try (with_reducible rfl); done)
          try simp only [List.getElem_toArray, List.getElem_cons_zero, List.getElem_cons_succ, Act.put, List.setIfInBounds_toArray, List.set_cons_zero, List.set_cons_succ]
          refine wpAnyH_take (i := 12) (v := ?_) rfl (by kernel_rfl) (by kernel_rfl) (by kernel_rfl) (fun _ _ _ h => h) (Or.inl ⟨by rfl, ?_⟩) (by assumption) ?_
          rotate_left; focus (intro w hSw; (try dsimp only at hSw); go_simp; try (with_reducible rfl); done)
          try simp only [List.getElem_toArray, List.getElem_cons_zero, List.getElem_cons_succ, Act.put, List.setIfInBounds_toArray, List.set_cons_zero, List.set_cons_succ]
          refine wpAnyH_take (i := 13) (v := ?_) rfl (by kernel_rfl) (by kernel_rfl) (by kernel_rfl) (fun _ _ _ h => h) (Or.inl ⟨by rfl, ?_⟩) (by assumption) ?_
          rotate_left; focus (intro w hSw; (try dsimp only at hSw); go_simp; try (with_reducible rfl); done)
          try simp only [List.getElem_toArray, List.getElem_cons_zero, List.getElem_cons_succ, Act.put, List.setIfInBounds_toArray, List.set_cons_zero, List.set_cons_succ]
          refine wpAnyH_ready (rs := [14]) (by kernel_rfl) (by simp) ?_
          refine AllReadyH.cons rfl (fun K hK => ?_) AllReadyH.nil
          go_simp
          (refine HCON.out.mono ?_; rintro e8 w8 ⟨rfl, v8, hst8⟩; have HST8 := Lib.hid hst8; obtain ⟨x0, x1, x2⟩ := hst8.at3 3 rfl; obtain ⟨z0, z1, z2⟩ := hst8.at3 4 rfl; obtain ⟨g0, g1, g2⟩ := hst8.at3 5 rfl; have c2 := bkeep hst8.bel C2.out; have e1 := bkeep hst8.bel E1.out; clear hst8)
          refine hK.out _ _ ?_ (fun hHeld => ?_)
          · (try dsimp only); (first | exact ⟨g2, z0, c2, e1, x1⟩ | go_keep)
          clear hK K
          try simp only [List.getElem_toArray, List.getElem_cons_zero, List.getElem_cons_succ, Act.put, List.setIfInBounds_toArray, List.set_cons_zero, List.set_cons_succ]
          refine wpAnyH_done (by kernel_rfl) ?_ _
          clear g2 z0 c2 e1 x1 HCON
          go_wp2
          go_roundg (ks.length - (k + 1))
          case measure => have := HGK.out; omega
          case rel => exact ⟨k + 1, X ++ fL y2 kt, by omega, rfl, by go_num, HSTEP, v8, by rw [← List.append_assoc]; exact HST8.out.pick [0, 1, 2, 4, 5] 6 rfl rfl⟩
        · rw [if_neg hneg] at hgv
          rw [hgv] at hle HSTEP
          have hcon := IH.out (ks.getD k Tr.nil) _ (out ++ fA p ++ X) _ _ hkid (hkk.resolve_left hneg) (by rw [List.length_append, List.length_append]; omega) HACC2.out
          have HCON := Lib.hid hcon
          generalize Tr.eachL fA fB fL l n (ks.getD k Tr.nil) = Y at *
          generalize (ks.getD k Tr.nil).prod = kp at *
          generalize (ks.getD k Tr.nil).tok = kt at *
          generalize (ks.getD k Tr.nil).kids.length = kl at *
          clear hcon hgv hkid hkk hle HACC2
          go_wp2_with (fail)
          refine HCON.out.mono ?_
          rintro e8 w8 ⟨rfl, v8, hst8⟩
          have HST8 := Lib.hid hst8
          clear hst8 x0 x1 x2 g0 g1 g2 z0 z1 z2 HCON
          go_wp2
          go_roundg (ks.length - (k + 1))
          case measure => have := HGK.out; omega
          case rel => exact ⟨k + 1, X ++ Y, by omega, rfl, by go_num, HSTEP, v8, by rw [← List.append_assoc]; exact HST8.out.pick [0, 1, 2, 4, 5] 6 rfl rfl⟩
      · obtain rfl : k = ks.length := by omega
        have hx := HX.out
        rw [Tr.zip_all HKB.out, HXA.out] at hx
        subst hx
        have hcon := HB.out (out ++ fA p ++ XA) p _ _ (by have := HLEN.out; rw [List.length_append, List.length_append]; omega) ⟨v1, hst⟩
        have HCON := Lib.hid hcon
        obtain ⟨z0, z1, z2⟩ := hst.at3 3 rfl
        clear hst hcon
        go_wp2_with (fail)
        refine HCON.out.mono ?_
        rintro e8 w8 ⟨rfl, v8, hst8⟩
        have HST8 := Lib.hid hst8
        clear hst8 z0 z1 z2
        go_wp2
        go_end0
        exact ⟨rfl, v8, by rw [← List.append_assoc, ← List.append_assoc]; exact HST8.out.pick [0, 1, 2] 5 rfl rfl⟩
end Go.Proofs.Ytldapomcjfkeeaa
