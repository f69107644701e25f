/-
  Events and Yield of the reference.
-/
import Derived.Test.YtldapomcjfkeeaaTrDo
import Derived.Test.YtldapomcjfkeeaaStepSl
namespace Go.Proofs.Ytldapomcjfkeeaa
set_option linter.unusedVariables false
set_option linter.unusedSimpArgs false
open Go.ChangeShapes Go.WideShapes Go.ChangeAt Go.RowKit

theorem Tr.litEvt {w0 w : World} {μ : List Asrt} {g : Nat} {a b : Int} (h : St w0 w (aCel g 81 #[.int .i64 a, .int .i64 b] :: μ)) :
    St w0 w (aOwn 81 2 (.slice (some ⟨g, 0, none⟩) 1 1) ([(a, b)].map pairV) :: μ) := by
  refine h.turn (by simp [aOwn, aCel, Value.ownBlock]) ?_
  have := h.ok _ (.head _)
  simp only [aCel] at this
  simp only [aOwn]
  unfold Own
  exact ⟨rfl, .inr ⟨g, 1, _, rfl, Nat.zero_le _, this, by simp, by decide, rfl, rfl⟩⟩
namespace Tr
theorem flat_step {β : Type} {ks : List Tr} {k : Nat} (h : k < ks.length) (g : Tr → List β) : (ks.take (k + 1)).flatMap g = (ks.take k).flatMap g ++ g (ks.getD k nil) := by
  rw [List.take_succ_eq_append_getElem h, List.flatMap_append, List.flatMap_singleton]
  simp [List.getD, List.getElem?_eq_getElem h]
theorem evtEnc {w0 w : World} {μ : List Asrt} {v : Value} {l : List (Int × Int)} (h : St w0 w μ) (i : Nat) (hA : μ[i]? = some (aOwn 81 2 v (l.map pairV))) (h1 : l.length ≤ 5000) :
    (Tr.evt.sl 16).R (fun b => b < w.heap.size) w [v] l :=
  Own.enc (En := Tr.evt) (bytes := 16) (f := pairV) (h.ownAt i hA) rfl (fun _ _ => rfl) (fun b hb => ((h.nth i hA).fpOwn b hb).2) (by omega)
theorem numEnc {w0 w : World} {μ : List Asrt} {v : Value} {l : List Int} (h : St w0 w μ) (i : Nat) (hA : μ[i]? = some (aOwn 3 1 v (l.map (Value.int .i64)))) (h1 : l.length ≤ 5000) :
    (Tr.num.sl 8).R (fun b => b < w.heap.size) w [v] l :=
  Own.enc (En := Tr.num) (bytes := 8) (f := Value.int .i64) (h.ownAt i hA) rfl (fun _ _ => rfl) (fun b hb => ((h.nth i hA).fpOwn b hb).2) (by omega)
end Tr

set_option maxRecDepth 100000 in
set_option maxHeartbeats 8000000 in
theorem rEvents_any (d : Bool) : ∀ (n : Nat) (t : Tr) (cs : Array Value) (w : World) (F : Nat → Prop), (∀ b, F b → b < w.heap.size) → (Tr.enc n).R F w cs.toList t → (Tr.ev d n t).length ≤ 5000 →
    Calls Try.prog 41 #[.agg cs, .bool d] w fun e w' => ∃ v, e = .returned v ∧ St w w' [aOwn 81 2 v ((Tr.ev d n t).map pairV)] := by
  intro n
  induction n with
  | zero => intro t cs w F _ h; exact h.elim
  | succ n ih =>
    intro t cs w F hF ht hlen
    obtain ⟨m, hm, vk, hcs, ⟨hp0, hp1⟩, ⟨hk0, hk1⟩, hk⟩ := Tr.opened ht
    obtain rfl : n = m := by omega
    obtain rfl : cs = #[.int .i64 t.prod, .int .i64 t.tok, vk] := Array.toList_inj.1 hcs
    obtain ⟨ak, bk, ok, ck, rfl, hkl, k3, k4⟩ := Tr.kidsAt hk
    have hst := (St.init w).alloc #[.int .i64 t.prod, .int .i64 t.tok, .slice ak t.kids.length ck] 71
    have K3 := Lib.hid k3; have K4 := Lib.hid k4; have IH := Lib.hid ih; have HF := Lib.hid hF
    have HST := Lib.hid hst
    rw [Tr.ev] at hlen ⊢
    clear hst k3 k4 ih hF ht hk hcs hm
    generalize t.prod = pr at *
    generalize t.tok = tk at *
    generalize t.kids = ks at *
    by_cases hneg : pr < 0
    · rw [if_pos hneg]
      have HL := Lib.hid (Tr.litEvt (HST.out.alloc #[.int .i64 2, .int .i64 tk] 81))
      simp only [World.size_alloc] at HL
      clear hlen
      go_enter Try.func41, Try.ntmps41
      go_wp2
      go_ret
      exact ⟨_, rfl, HL.out.nth 0 rfl⟩
    · rw [if_neg hneg] at hlen ⊢
      obtain ⟨XA, hXA⟩ : ∃ X, ks.flatMap (Tr.ev d n) = X := ⟨_, rfl⟩
      rw [hXA] at hlen ⊢
      have HXA := Lib.hid hXA
      rw [List.length_append, List.length_append, List.length_singleton] at hlen
      have HLEN := Lib.hid hlen
      have hll : (ks.length : Int) ≤ 140737488355328 := by omega
      clear hXA hlen hkl
      obtain ⟨z0, z1, z2⟩ := HST.out.at3 0 rfl
      cases d
      · have HST2 := Lib.hid (show St w _ [aOwn 81 2 (.slice none 0 0) ((([] : List (Int × Int)) ++ []).map pairV), _] from HST.out.nilOwn 81 2)
        clear HST
        go_enter Try.func41, Try.ntmps41
        go_wp2
        go_loopg [5, 6] ks.length (fun gk v i wr => ∃ (k : Nat) (X : List (Int × Int)), k ≤ ks.length ∧ gk = ks.length - k ∧ i = .int .i64 k ∧ Hid ((ks.take k).flatMap (Tr.ev false n) = X) ∧ St w wr [aOwn 81 2 v ((([] : List (Int × Int)) ++ X).map pairV), aCel w.heap.size 71 #[.int .i64 pr, .int .i64 tk, .slice ak ks.length ck]])
        case atStart => exact ⟨0, [], by omega, by omega, rfl, Lib.hid rfl, HST2.out⟩
        case round =>
          clear HST2 z0 z1 z2
          obtain ⟨k, X, hk, hgk, rfl, HX, hst⟩ := hrel
          have HGK := Lib.hid hgk
          clear hgk
          by_cases hlt3 : k < ks.length
          · obtain ⟨rfl, -, -⟩ := K3.out (by omega)
            obtain ⟨ka, kc, d0, d1, d2, hkid⟩ := K4.out k hlt3
            have hstep := Tr.flat_step hlt3 (Tr.ev false n)
            rw [HX.out] at hstep
            have hle := Tr.flat_take_le ks (Tr.ev false n) (k + 1)
            rw [HXA.out, hstep, List.length_append] at hle
            have d0 := bkeep hst.bel d0
            have d1 := bkeep hst.bel d1
            have d2 := bkeep hst.bel d2
            have hlt4 : (k : Int) < ks.length := by omega
            obtain ⟨z0, z1, z2⟩ := hst.at3 1 rfl
            have HST := Lib.hid hst
            have HC := Lib.hid (IH.out (ks.getD k Tr.nil) _ wr F (fun b hb => Nat.lt_of_lt_of_le (HF.out b hb) hst.bel.size) (Enc.mono _ hkid (fun _ h => h) (fun b hb => hst.bel.block b (HF.out b hb))) (by have := HLEN.out; omega))
            have HSTEP := Lib.hid hstep
            have HB := Lib.hid (show X.length + (Tr.ev false n (ks.getD k Tr.nil)).length ≤ 4999 by have := HLEN.out; omega)
            generalize Tr.ev false n (ks.getD k Tr.nil) = Y at *
            generalize (ks.getD k Tr.nil).prod = kp at *
            generalize (ks.getD k Tr.nil).tok = kt at *
            generalize (ks.getD k Tr.nil).kids.length = kl at *
            clear hst hstep hle hkid
            go_wp2_with (fail)
            go_at_call 41
            refine HC.out.mono ?_
            rintro e w2 ⟨vr, rfl, hst2⟩
            have hst3 := HST.out.joined hst2
            have HR := Lib.hid (Tr.evtEnc hst3 0 rfl (by have := HB.out; omega))
            have HST3 := Lib.hid (hst3.pick [1, 0, 2] 3 rfl rfl)
            clear hst2 hst3 z0 z1 z2 d0 d1 d2 HC
            go_wp2_with (refine St.appSl (o := ⟨some 36, _, _, _, _, _⟩) Tr.evtE ?h1_1 (.tmp 28) (.tmp 35) ?h1_3 ?h1_2 HST3.out (En := Tr.evt) rfl HR.out ?h1_4 pairV (fun _ _ _ h => h) (fun p => Tr.pairOne p) ?h1_5 ?h1_6 ?h1_7; (case h1_1 => rfl); (case h1_2 => rfl); (case h1_3 => rfl); (case h1_4 => rfl); (case h1_5 => (rw [List.length_map, List.length_append]; have := HB.out; simp only [List.length_cons, List.length_nil]; omega)); (case h1_6 => (rw [List.length_map, List.length_append]; have := HB.out; simp only [List.length_cons, List.length_nil]; omega)); intro v9 w9 hst9; have HST9 := Lib.hid hst9; clear hst9 HR HST3)
            go_roundg (ks.length - (k + 1))
            case measure => have := HGK.out; omega
            case rel => exact ⟨k + 1, X ++ Y, by omega, rfl, by go_num, HSTEP, by rw [← List.append_assoc, List.map_append]; exact HST9.out.pick [0, 2] 3 rfl rfl⟩
          · obtain rfl : k = ks.length := by omega
            have hx := HX.out
            rw [List.take_length, HXA.out] at hx
            subst hx
            obtain ⟨z0, z1, z2⟩ := hst.at3 1 rfl
            have HST := Lib.hid hst
            have HB := Lib.hid (show XA.length ≤ 4999 by have := HLEN.out; omega)
            clear hst
            go_wp2_with (refine St.app1n (o := ⟨some 49, _, _, _, _, _⟩) Tr.evtE ?h2_1 (.tmp 44) (.tmp 48) ?h2_2 ?h2_3 HST.out (pairV (4, pr)) ?h2_4 wr.heap.size 1 ?h2_5 ?h2_6 ?h2_7 ?h2_8 ?h2_9 ?h2_10 ?h2_11; (case h2_1 => rfl); (case h2_2 => rfl); (case h2_6 => rfl); (case h2_7 => rfl); (case h2_4 => rfl); (case h2_3 => rfl); (case h2_5 => rfl); (case h2_8 => exact Tr.pairOne _); (case h2_9 => (rw [List.length_map, List.length_append]; simp only [List.length_cons, List.length_nil]; unfold maxLen; have := HB.out; omega)); (case h2_10 => (rw [List.length_map, List.length_append]; simp only [List.length_cons, List.length_nil]; have := HB.out; omega)); intro g' n' c' w9 hst9; clear HST; have HST9 := Lib.hid hst9; clear hst9)
            go_ret
            exact ⟨_, rfl, by first | exact HST9.out.nth 0 rfl | (rw [List.map_append]; exact HST9.out.nth 0 rfl)⟩
      · have HST1 := Lib.hid (HST.out.nilOwn 81 2)
        have HB := Lib.hid (show (0 : Nat) ≤ 1 by omega)
        clear HST
        go_enter Try.func41, Try.ntmps41
        go_wp2_with (refine St.app1n (o := ⟨some 20, _, _, _, _, _⟩) Tr.evtE ?h3_1 (.tmp 15) (.tmp 19) ?h3_2 ?h3_3 HST1.out (pairV (1, pr)) ?h3_4 (w.heap.size + 1) 1 ?h3_5 ?h3_6 ?h3_7 ?h3_8 ?h3_9 ?h3_10 ?h3_11; (case h3_1 => rfl); (case h3_2 => rfl); (case h3_6 => simp); (case h3_7 => rfl); (case h3_4 => rfl); (case h3_3 => rfl); (case h3_5 => rfl); (case h3_8 => exact Tr.pairOne _); (case h3_9 => (simp only [List.length_nil]; unfold maxLen; have := HB.out; omega)); (case h3_10 => (simp only [List.length_nil]; have := HB.out; omega)); intro g' n' c' w9 hst9; have HST2 := Lib.hid (show St w w9 [aOwn 81 2 (.slice (some ⟨g', 0, none⟩) n' c') (([((1 : Int), pr)] ++ ([] : List (Int × Int))).map pairV), aCel w.heap.size 71 #[.int .i64 pr, .int .i64 tk, .slice ak ks.length ck]] from hst9); obtain ⟨z0, z1, z2⟩ := hst9.at3 1 rfl; clear hst9 HST1)
        go_wp2
        go_loopg [5, 6] ks.length (fun gk v i wr => ∃ (k : Nat) (X : List (Int × Int)), k ≤ ks.length ∧ gk = ks.length - k ∧ i = .int .i64 k ∧ Hid ((ks.take k).flatMap (Tr.ev true n) = X) ∧ St w wr [aOwn 81 2 v (([(1, pr)] ++ X).map pairV), aCel w.heap.size 71 #[.int .i64 pr, .int .i64 tk, .slice ak ks.length ck]])
        case atStart => exact ⟨0, [], by omega, by omega, rfl, Lib.hid rfl, HST2.out⟩
        case round =>
          clear HST2 z0 z1 z2
          obtain ⟨k, X, hk, hgk, rfl, HX, hst⟩ := hrel
          have HGK := Lib.hid hgk
          clear hgk
          by_cases hlt3 : k < ks.length
          · obtain ⟨rfl, -, -⟩ := K3.out (by omega)
            obtain ⟨ka, kc, d0, d1, d2, hkid⟩ := K4.out k hlt3
            have hstep := Tr.flat_step hlt3 (Tr.ev true n)
            rw [HX.out] at hstep
            have hle := Tr.flat_take_le ks (Tr.ev true n) (k + 1)
            rw [HXA.out, hstep, List.length_append] at hle
            have d0 := bkeep hst.bel d0
            have d1 := bkeep hst.bel d1
            have d2 := bkeep hst.bel d2
            have hlt4 : (k : Int) < ks.length := by omega
            obtain ⟨z0, z1, z2⟩ := hst.at3 1 rfl
            have HST := Lib.hid hst
            have HC := Lib.hid (IH.out (ks.getD k Tr.nil) _ wr F (fun b hb => Nat.lt_of_lt_of_le (HF.out b hb) hst.bel.size) (Enc.mono _ hkid (fun _ h => h) (fun b hb => hst.bel.block b (HF.out b hb))) (by have := HLEN.out; omega))
            have HSTEP := Lib.hid hstep
            have HB := Lib.hid (show X.length + (Tr.ev true n (ks.getD k Tr.nil)).length ≤ 4999 by have := HLEN.out; omega)
            generalize Tr.ev true n (ks.getD k Tr.nil) = Y at *
            generalize (ks.getD k Tr.nil).prod = kp at *
            generalize (ks.getD k Tr.nil).tok = kt at *
            generalize (ks.getD k Tr.nil).kids.length = kl at *
            clear hst hstep hle hkid
            go_wp2_with (fail)
            go_at_call 41
            refine HC.out.mono ?_
            rintro e w2 ⟨vr, rfl, hst2⟩
            have hst3 := HST.out.joined hst2
            have HR := Lib.hid (Tr.evtEnc hst3 0 rfl (by have := HB.out; omega))
            have HST3 := Lib.hid (hst3.pick [1, 0, 2] 3 rfl rfl)
            clear hst2 hst3 z0 z1 z2 d0 d1 d2 HC
            go_wp2_with (refine St.appSl (o := ⟨some 36, _, _, _, _, _⟩) Tr.evtE ?h4_1 (.tmp 28) (.tmp 35) ?h4_3 ?h4_2 HST3.out (En := Tr.evt) rfl HR.out ?h4_4 pairV (fun _ _ _ h => h) (fun p => Tr.pairOne p) ?h4_5 ?h4_6 ?h4_7; (case h4_1 => rfl); (case h4_2 => rfl); (case h4_3 => rfl); (case h4_4 => rfl); (case h4_5 => (rw [List.length_map, List.length_append]; have := HB.out; simp only [List.length_cons, List.length_nil]; omega)); (case h4_6 => (rw [List.length_map, List.length_append]; have := HB.out; simp only [List.length_cons, List.length_nil]; omega)); intro v9 w9 hst9; have HST9 := Lib.hid hst9; clear hst9 HR HST3)
            go_roundg (ks.length - (k + 1))
            case measure => have := HGK.out; omega
            case rel => exact ⟨k + 1, X ++ Y, by omega, rfl, by go_num, HSTEP, by rw [← List.append_assoc, List.map_append]; exact HST9.out.pick [0, 2] 3 rfl rfl⟩
          · obtain rfl : k = ks.length := by omega
            have hx := HX.out
            rw [List.take_length, HXA.out] at hx
            subst hx
            obtain ⟨z0, z1, z2⟩ := hst.at3 1 rfl
            have HST := Lib.hid hst
            have HB := Lib.hid (show XA.length ≤ 4999 by have := HLEN.out; omega)
            clear hst
            go_wp2_with (refine St.app1n (o := ⟨some 43, _, _, _, _, _⟩) Tr.evtE ?h5_1 (.tmp 38) (.tmp 42) ?h5_2 ?h5_3 HST.out (pairV (3, pr)) ?h5_4 wr.heap.size 1 ?h5_5 ?h5_6 ?h5_7 ?h5_8 ?h5_9 ?h5_10 ?h5_11; (case h5_1 => rfl); (case h5_2 => rfl); (case h5_6 => rfl); (case h5_7 => rfl); (case h5_4 => rfl); (case h5_3 => rfl); (case h5_5 => rfl); (case h5_8 => exact Tr.pairOne _); (case h5_9 => (rw [List.length_map, List.length_append]; simp only [List.length_cons, List.length_nil]; unfold maxLen; have := HB.out; omega)); (case h5_10 => (rw [List.length_map, List.length_append]; simp only [List.length_cons, List.length_nil]; have := HB.out; omega)); intro g' n' c' w9 hst9; clear HST; have HST9 := Lib.hid hst9; clear hst9)
            go_ret
            exact ⟨_, rfl, by first | exact HST9.out.nth 0 rfl | (rw [List.map_append]; exact HST9.out.nth 0 rfl)⟩

set_option maxRecDepth 100000 in
set_option maxHeartbeats 8000000 in
theorem rYield_any (tg ng : Int) (vp : Value) (l : List (Int × List (Int × Int))) (hl : l.length ≤ 40) : ∀ (n : Nat) (t : Tr) (cs : Array Value) (w : World) (F : Nat → Prop), (∀ b, F b → b < w.heap.size) → Enc.prods.R F w [vp] l → (Tr.enc n).R F w cs.toList t → Tr.Ok l n t → (Tr.eachL (fun _ => []) (fun _ => []) (fun t _ => [t]) l n t).length ≤ 5000 →
    Calls Try.prog 39 #[.agg #[.int .i64 tg, .int .i64 ng, vp], .agg cs] w fun e w' => ∃ v, e = .returned v ∧ St w w' [aOwn 3 1 v ((Tr.eachL (fun _ => []) (fun _ => []) (fun t _ => [t]) l n t).map (Value.int .i64))] := by
  intro n
  induction n with
  | zero => intro t cs w F _ _ h; exact h.elim
  | succ n ih =>
    intro t cs w F hF hp ht hok hlen
    obtain ⟨m, hm, vk, hcs, ⟨hp0, hp1⟩, ⟨hk0, hk1⟩, hk⟩ := Tr.opened ht
    obtain rfl : n = m := by omega
    obtain rfl : cs = #[.int .i64 t.prod, .int .i64 t.tok, vk] := Array.toList_inj.1 hcs
    obtain ⟨ak, bk, ok, ck, rfl, hkl, k3, k4⟩ := Tr.kidsAt hk
    have HP := Lib.hid hp
    obtain ⟨ap, bp, op, cp, rfl, -, p3, p4⟩ := slProds hp
    have hst := ((St.init w).alloc #[.int .i64 tg, .int .i64 ng, .slice ap l.length cp] 68).alloc #[.int .i64 t.prod, .int .i64 t.tok, .slice ak t.kids.length ck] 71
    simp only [World.size_alloc] at hst
    obtain ⟨hpr0, hpr1, hkb, hkids⟩ := hok
    have HKID := Lib.hid (fun i (hi : i < t.kids.length) => hkids (t.kids.getD i Tr.nil) (by simp [List.getD, List.getElem?_eq_getElem hi]))
    have hE : Tr.eachL (fun _ => []) (fun _ => []) (fun t _ => [t]) l (n + 1) t = (t.kids.zip (l.getD t.prod.toNat (0, [])).2).flatMap (fun q => if q.1.prod < 0 then [q.2.2] else Tr.eachL (fun _ => []) (fun _ => []) (fun t _ => [t]) l n q.1) := by
      rw [Tr.eachL]; simp
    rw [hE] at hlen ⊢
    have P3 := Lib.hid p3; have P4 := Lib.hid p4
    have K3 := Lib.hid k3; have K4 := Lib.hid k4; have IH := Lib.hid ih; have HF := Lib.hid hF
    have HST := Lib.hid hst
    clear hst k3 k4 ih hF ht hk hcs hm hp p3 p4 hE hkids
    generalize t.prod = pr at *
    generalize t.tok = tk at *
    generalize t.kids = ks at *
    obtain ⟨p, rfl⟩ := Int.eq_ofNat_of_zero_le hpr0
    rw [Int.toNat_natCast] at hlen hkb ⊢
    have hlt : p < l.length := by omega
    obtain ⟨rfl, -, -⟩ := P3.out (by omega)
    obtain ⟨vb, c1, c2, hbody, -⟩ := P4.out p hlt
    obtain ⟨ab, bb, ob, cb', rfl, -, b3, b4⟩ := slTwo hbody
    generalize l.getD p (0, []) = pp at *
    obtain ⟨h0, body⟩ := pp
    simp only at c1 c2 hkb b3 b4 hlen ⊢
    obtain ⟨G, hG⟩ : ∃ G, (fun q : Tr × (Int × Int) => if q.1.prod < 0 then [q.2.2] else Tr.eachL (fun _ => []) (fun _ => []) (fun t _ => [t]) l n q.1) = G := ⟨_, rfl⟩
    rw [hG] at hlen ⊢
    have HG := Lib.hid hG
    have C2 := Lib.hid c2; have B3 := Lib.hid b3; have B4 := Lib.hid b4; have HKB := Lib.hid hkb
    obtain ⟨XA, hXA⟩ : ∃ X, (ks.zip body).flatMap G = X := ⟨_, rfl⟩
    rw [hXA] at hlen ⊢
    have HXA := Lib.hid hXA
    have hlt2 : (p : Int) < l.length := by omega
    have HLEN := Lib.hid hlen
    obtain ⟨z0, z1, z2⟩ := HST.out.at3 0 rfl
    have HST2 := Lib.hid (show St w _ [aOwn 3 1 (.slice none 0 0) (([] : List Int).map (Value.int .i64)), _, _] from HST.out.nilOwn 3 1)
    clear hG hXA hkb b3 b4 hbody c1 c2 hlen hpr0 hpr1 hp0 hp1 HST hk0 hk1
    go_enter Try.func39, Try.ntmps39
    go_wp2
    go_loopg [5, 6] ks.length (fun gk v i wr => ∃ (k : Nat) (X : List Int), k ≤ ks.length ∧ gk = ks.length - k ∧ i = .int .i64 k ∧ Hid (((ks.zip body).take k).flatMap G = X) ∧ St w wr [aOwn 3 1 v (X.map (Value.int .i64)), aCel (w.heap.size + 1) 71 #[.int .i64 p, .int .i64 tk, .slice ak ks.length ck], aCel w.heap.size 68 #[.int .i64 tg, .int .i64 ng, .slice (some ⟨bp, op, none⟩) l.length cp]])
    case atStart => exact ⟨0, [], by omega, by omega, rfl, Lib.hid rfl, HST2.out⟩
    case round =>
      clear HST2 z0 z1 z2
      obtain ⟨k, X, hk, hgk, rfl, HX, hst⟩ := hrel
      have HGK := Lib.hid hgk
      clear hgk
      by_cases hlt3 : k < ks.length
      · have hkb : k < body.length := by have := HKB.out; omega
        obtain ⟨rfl, -, -⟩ := K3.out (by omega)
        obtain ⟨ka, kc, d0, d1, d2, hkid⟩ := K4.out k hlt3
        obtain ⟨rfl, -, -⟩ := B3.out (by omega)
        obtain ⟨e0, e1, -, -⟩ := B4.out k hkb
        have hstep := Tr.zip_take hlt3 hkb Tr.nil (0, 0) G
        rw [HX.out] at hstep
        have hle := Tr.flat_take_le (ks.zip body) G (k + 1)
        rw [HXA.out, hstep, List.length_append] at hle
        have hgv := (congrFun HG.out (ks.getD k Tr.nil, body.getD k (0, 0))).symm
        simp only at hgv
        have hkk := HKID.out k hlt3
        have hLN := HLEN.out
        generalize body.getD k (0, 0) = y at *
        obtain ⟨y1, y2⟩ := y
        simp only at e0 e1 hgv
        have HSTEP := Lib.hid hstep
        have D0 := Lib.hid d0; have D1 := Lib.hid d1; have D2 := Lib.hid d2
        have d0 := bkeep hst.bel d0
        have d1 := bkeep hst.bel d1
        have d2 := bkeep hst.bel d2
        have e1 := bkeep hst.bel e1
        have c2 := bkeep hst.bel C2.out
        have hlt4 : (k : Int) < ks.length := by omega
        have hkb4 : (k : Int) < body.length := by omega
        obtain ⟨z0, z1, z2⟩ := hst.at3 1 rfl
        obtain ⟨g0, g1, g2⟩ := hst.at3 2 rfl
        have HST := Lib.hid hst
        by_cases hneg : (ks.getD k Tr.nil).prod < 0
        · rw [if_pos hneg] at hgv
          rw [hgv] at hle HSTEP
          rw [List.length_singleton] at hle
          have HB := Lib.hid (show X.length ≤ 4999 by omega)
          generalize (ks.getD k Tr.nil).prod = kp at *
          generalize (ks.getD k Tr.nil).tok = kt at *
          generalize (ks.getD k Tr.nil).kids.length = kl at *
          clear hgv hkid hkk hle hst hstep e0
          go_wp2_with (refine St.app1n (o := ⟨some 34, _, _, _, _, _⟩) intE ?h1_1 (.tmp 21) (.tmp 33) ?h1_2 ?h1_3 HST.out (.int .i64 y2) ?h1_4 wr.heap.size 1 ?h1_5 ?h1_6 ?h1_7 ?h1_8 ?h1_9 ?h1_10 ?h1_11; (case h1_1 => rfl); (case h1_2 => rfl); (case h1_6 => rfl); (case h1_7 => rfl); (case h1_4 => rfl); (case h1_3 => rfl); (case h1_5 => rfl); (case h1_8 => (intro q hq; simp [Value.cells] at hq; subst hq; rfl)); (case h1_9 => (rw [List.length_map]; unfold maxLen; have := HB.out; omega)); (case h1_10 => (rw [List.length_map]; have := HB.out; omega)); intro g' n' c' w9 hst9; have HST9 := Lib.hid hst9; clear hst9 HST)
          go_roundg (ks.length - (k + 1))
          case measure => have := HGK.out; omega
          case rel => exact ⟨k + 1, X ++ [y2], by omega, rfl, by go_num, HSTEP, by rw [List.map_append]; exact HST9.out⟩
        · rw [if_neg hneg] at hgv
          rw [hgv] at hle HSTEP
          have HC := Lib.hid (fun W (hW : Below w.heap.size w W) => IH.out (ks.getD k Tr.nil) _ W F (fun b hb => Nat.lt_of_lt_of_le (HF.out b hb) hW.size) (Enc.mono _ HP.out (fun _ h => h) (fun b hb => hW.block b (HF.out b hb))) (Enc.mono _ hkid (fun _ h => h) (fun b hb => hW.block b (HF.out b hb))) (hkk.resolve_left hneg) (by have := HLEN.out; omega))
          have HB := Lib.hid (show X.length + (Tr.eachL (fun _ => []) (fun _ => []) (fun t _ => [t]) l n (ks.getD k Tr.nil)).length ≤ 5000 by have := HLEN.out; omega)
          generalize Tr.eachL (fun _ => []) (fun _ => []) (fun t _ => [t]) l n (ks.getD k Tr.nil) = Y at *
          have hneg' : decide ((ks.getD k Tr.nil).prod < 0) = false := decide_eq_false hneg
          generalize (ks.getD k Tr.nil).prod = kp at *
          generalize (ks.getD k Tr.nil).tok = kt at *
          generalize (ks.getD k Tr.nil).kids.length = kl at *
          have HSTD := Lib.hid hst.drew
          clear hgv hkid hkk hle hst hstep e0 e1 c2
          go_wp2
          clear z0 z1
          refine wp_region_held_drew (S := (fun w' => w'.cell? ⟨w.heap.size, 0, none⟩ = some (.int .i64 tg) ∧ w'.cell? ⟨w.heap.size, 1, none⟩ = some (.int .i64 ng) ∧ w'.cell? ⟨w.heap.size, 2, none⟩ = some (.slice (some ⟨bp, op, none⟩) l.length cp) ∧ w'.cell? ⟨w.heap.size + 1, 2, none⟩ = some (.slice (some ⟨bk, ok, none⟩) ks.length ck) ∧ w'.cell? ⟨bk, ok + k * 3, none⟩ = some (.int .i64 kp) ∧ w'.cell? ⟨bk, ok + k * 3 + 1, none⟩ = some (.int .i64 kt) ∧ w'.cell? ⟨bk, ok + k * 3 + 2, none⟩ = some (.slice ka kl kc))) (by kernel_rfl) ?_ (fun hHeld => ?_)
          · (try dsimp only); (first | exact ⟨g0, g1, g2, z2, d0, d1, d2⟩ | go_keep)

          refine wpAnyH_take (i := 0) (v := ?_) rfl (by kernel_rfl) (by kernel_rfl) (by kernel_rfl) (fun _ _ _ h => h) (Or.inl ⟨by rfl, ?_⟩) (by assumption) ?_
          rotate_left; focus (intro w hSw; (try dsimp only at hSw); go_simp; try (with_reducible rfl); done)
          try simp only [List.getElem_toArray, List.getElem_cons_zero, List.getElem_cons_succ, Act.put, List.setIfInBounds_toArray, List.set_cons_zero, List.set_cons_succ]
          refine wpAnyH_take (i := 1) (v := ?_) rfl (by kernel_rfl) (by kernel_rfl) (by kernel_rfl) (fun _ _ _ h => h) (Or.inl ⟨by rfl, ?_⟩) (by assumption) ?_
          rotate_left; focus (intro w hSw; (try dsimp only at hSw); go_simp; try (with_reducible rfl); done)
          try simp only [List.getElem_toArray, List.getElem_cons_zero, List.getElem_cons_succ, Act.put, List.setIfInBounds_toArray, List.set_cons_zero, List.set_cons_succ]
          refine wpAnyH_take (i := 2) (v := ?_) rfl (by kernel_rfl) (by kernel_rfl) (by kernel_rfl) (fun _ _ _ h => h) (Or.inl ⟨by rfl, ?_⟩) (by assumption) ?_
          rotate_left; focus (intro w hSw; (try dsimp only at hSw); go_simp; try (with_reducible rfl); done)
          try simp only [List.getElem_toArray, List.getElem_cons_zero, List.getElem_cons_succ, Act.put, List.setIfInBounds_toArray, List.set_cons_zero, List.set_cons_succ]
          refine wpAnyH_take (i := 3) (v := ?_) rfl (by kernel_rfl) (by kernel_rfl) (by kernel_rfl) (fun _ _ _ h => h) (Or.inl ⟨by rfl, ?_⟩) (by assumption) ?_
          rotate_left; focus (intro w hSw; (try dsimp only at hSw); go_simp; try (with_reducible rfl); done)
          try simp only [List.getElem_toArray, List.getElem_cons_zero, List.getElem_cons_succ, Act.put, List.setIfInBounds_toArray, List.set_cons_zero, List.set_cons_succ]
          refine wpAnyH_take (i := 4) (v := ?_) rfl (by kernel_rfl) (by kernel_rfl) (by kernel_rfl) (fun _ _ _ h => h) (Or.inl ⟨by rfl, ?_⟩) (by assumption) ?_
          rotate_left; focus (intro w hSw; (try dsimp only at hSw); go_simp; try (with_reducible rfl); done)
          try simp only [List.getElem_toArray, List.getElem_cons_zero, List.getElem_cons_succ, Act.put, List.setIfInBounds_toArray, List.set_cons_zero, List.set_cons_succ]
          refine wpAnyH_take (i := 5) (v := ?_) rfl (by kernel_rfl) (by kernel_rfl) (by kernel_rfl) (fun _ _ _ h => h) (Or.inl ⟨by rfl, ?_⟩) (by assumption) ?_
          rotate_left; focus (intro w hSw; (try dsimp only at hSw); go_simp; try (with_reducible rfl); done)
          try simp only [List.getElem_toArray, List.getElem_cons_zero, List.getElem_cons_succ, Act.put, List.setIfInBounds_toArray, List.set_cons_zero, List.set_cons_succ]
          refine wpAnyH_take (i := 6) (v := ?_) rfl (by kernel_rfl) (by kernel_rfl) (by kernel_rfl) (fun _ _ _ h => h) (Or.inl ⟨by rfl, ?_⟩) (by assumption) ?_
          rotate_left; focus (intro w hSw; (try dsimp only at hSw); go_simp; try (with_reducible rfl); done)
          try simp only [List.getElem_toArray, List.getElem_cons_zero, List.getElem_cons_succ, Act.put, List.setIfInBounds_toArray, List.set_cons_zero, List.set_cons_succ]
          refine wpAnyH_ready (rs := [7]) (by kernel_rfl) (by simp) ?_
          refine AllReadyH.cons rfl (fun K hK => ?_) AllReadyH.nil
          go_simp
          (first | (go_at_call 39; refine (HC.out _ HSTD.out.bel).mono ?_; rintro e w8 ⟨vr, rfl, hst8⟩; have hst9 := HSTD.out.joined hst8; have HR := Lib.hid (Tr.numEnc hst9 0 rfl (by have := HB.out; omega)); have HST9 := Lib.hid (hst9.pick [1, 0, 2, 3] 4 rfl rfl); obtain ⟨g0, g1, g2⟩ := hst9.at3 3 rfl; obtain ⟨-, -, z2⟩ := hst9.at3 2 rfl; have d0 := bkeep hst9.bel D0.out; have d1 := bkeep hst9.bel D1.out; have d2 := bkeep hst9.bel D2.out; clear hst8 hst9) | (refine St.stepSl (o := ⟨some 43, _, _, _, _, _⟩) intE rfl (.tmp 35) (.tmp 42) rfl rfl HST9.out (En := Tr.num) rfl HR.out rfl (Value.int .i64) (fun _ _ _ h => h) ?h2_1 ?h2_2 ?h2_3 ?h2_4; (case h2_1 => (intro a q hq; simp [Value.cells] at hq; subst hq; rfl)); (case h2_2 => (rw [List.length_map]; have := HB.out; omega)); (case h2_3 => (rw [List.length_map]; have := HB.out; omega)); intro v9 w9 hst10; have HST10 := Lib.hid hst10; obtain ⟨g0, g1, g2⟩ := hst10.at3 3 rfl; obtain ⟨-, -, z2⟩ := hst10.at3 2 rfl; have d0 := bkeep hst10.bel D0.out; have d1 := bkeep hst10.bel D1.out; have d2 := bkeep hst10.bel D2.out; clear hst10))
          refine hK.out _ _ ?_ (fun hHeld => ?_)
          · (try dsimp only); (first | exact ⟨g0, g1, g2, z2, d0, d1, d2⟩ | go_keep)
          clear hK K
          try simp only [List.getElem_toArray, List.getElem_cons_zero, List.getElem_cons_succ, Act.put, List.setIfInBounds_toArray, List.set_cons_zero, List.set_cons_succ]
          refine wpAnyH_ready (rs := [8]) (by kernel_rfl) (by simp) ?_
          refine AllReadyH.cons rfl (fun K hK => ?_) AllReadyH.nil
          (first | (go_at_call 39; refine (HC.out _ HSTD.out.bel).mono ?_; rintro e w8 ⟨vr, rfl, hst8⟩; have hst9 := HSTD.out.joined hst8; have HR := Lib.hid (Tr.numEnc hst9 0 rfl (by have := HB.out; omega)); have HST9 := Lib.hid (hst9.pick [1, 0, 2, 3] 4 rfl rfl); obtain ⟨g0, g1, g2⟩ := hst9.at3 3 rfl; obtain ⟨-, -, z2⟩ := hst9.at3 2 rfl; have d0 := bkeep hst9.bel D0.out; have d1 := bkeep hst9.bel D1.out; have d2 := bkeep hst9.bel D2.out; clear hst8 hst9) | (refine St.stepSl (o := ⟨some 43, _, _, _, _, _⟩) intE rfl (.tmp 35) (.tmp 42) rfl rfl HST9.out (En := Tr.num) rfl HR.out rfl (Value.int .i64) (fun _ _ _ h => h) ?h2_1 ?h2_2 ?h2_3 ?h2_4; (case h2_1 => (intro a q hq; simp [Value.cells] at hq; subst hq; rfl)); (case h2_2 => (rw [List.length_map]; have := HB.out; omega)); (case h2_3 => (rw [List.length_map]; have := HB.out; omega)); intro v9 w9 hst10; have HST10 := Lib.hid hst10; obtain ⟨g0, g1, g2⟩ := hst10.at3 3 rfl; obtain ⟨-, -, z2⟩ := hst10.at3 2 rfl; have d0 := bkeep hst10.bel D0.out; have d1 := bkeep hst10.bel D1.out; have d2 := bkeep hst10.bel D2.out; clear hst10))
          refine hK.out _ _ ?_ (fun hHeld => ?_)
          · (try dsimp only); (first | exact ⟨g0, g1, g2, z2, d0, d1, d2⟩ | go_keep)
          clear hK K
          try simp only [List.getElem_toArray, List.getElem_cons_zero, List.getElem_cons_succ, Act.put, List.setIfInBounds_toArray, List.set_cons_zero, List.set_cons_succ]
          refine wpAnyH_take (i := 9) (v := ?_) rfl (by kernel_rfl) (by kernel_rfl) (by kernel_rfl) (fun _ _ _ h => h) (Or.inl ⟨by rfl, ?_⟩) (by assumption) ?_
          rotate_left; focus (intro w hSw; (try dsimp only at hSw); go_simp; try (with_reducible rfl); done)
          try simp only [List.getElem_toArray, List.getElem_cons_zero, List.getElem_cons_succ, Act.put, List.setIfInBounds_toArray, List.set_cons_zero, List.set_cons_succ]
          refine wpAnyH_done (by kernel_rfl) ?_ _
          clear g0 g1 g2 z2 d0 d1 d2 HC HR HST9
          go_wp2
          go_roundg (ks.length - (k + 1))
          case measure => have := HGK.out; omega
          case rel => exact ⟨k + 1, X ++ Y, by omega, rfl, by go_num, HSTEP, by rw [List.map_append]; exact HST10.out.pick [0, 2, 3] 4 rfl rfl⟩
      · obtain rfl : k = ks.length := by omega
        have hx := HX.out
        rw [Tr.zip_all HKB.out, HXA.out] at hx
        subst hx
        have HST := Lib.hid hst
        obtain ⟨z0, z1, z2⟩ := hst.at3 1 rfl
        clear hst
        go_wp2
        go_ret
        exact ⟨_, rfl, HST.out.nth 0 rfl⟩
end Go.Proofs.Ytldapomcjfkeeaa
