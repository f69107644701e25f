/-
  Yield, Down and Up of package trees.
-/
import Derived.Test.YtldapomcjfkeeaaTrEach
import Derived.Test.YtldapomcjfkeeaaTrChk
import Derived.Test.YtldapomcjfkeeaaTrP
namespace Go.Proofs.Ytldapomcjfkeeaa
set_option linter.unusedVariables false
set_option linter.unusedSimpArgs false
open Go.ChangeShapes Go.WideShapes Go.ChangeAt Go.RowKit

namespace Tr
theorem err_zero {tg ng : Int} {l : List (Int × List (Int × Int))} {n : Nat} {t : Tr} (h : err tg ng l n t = 0) : Gr.err tg ng l = 0 ∧ (look l n t (2, 0) 1 (0, 0)).1 = 0 := by
  rw [err] at h
  split at h
  · rename_i h1; exact ⟨h1, h⟩
  · rename_i h1; exact absurd h h1
theorem cel_of {g : Nat} {T : TypeId} {cs : Array Value} {w : World} (h : (aCel g T cs).ok w) {i : Nat} {v : Value} (hi : cs[i]? = some v) : w.cell? ⟨g, i, none⟩ = some v := by
  simp only [aCel] at h
  simp [World.cell?, h, hi]
end Tr

theorem trDownMkB (gO B : Nat) (kind : Int) (w : World) (hB : w.heap.size = B) :
    Calls Try.prog 96 #[.int .i64 kind, .pointer (some ⟨gO, 0, none⟩)] w fun e w' => e = .returned (.func (.func 97) #[] #[.pointer (some ⟨gO, 0, none⟩), .pointer (some ⟨B, 0, none⟩)]) ∧ w' = w.alloc (.cells #[.int .i64 kind] 3) := by
  subst hB; exact trDownMk gO kind w

theorem trUpMkB (gO B : Nat) (kind : Int) (w : World) (hB : w.heap.size = B) :
    Calls Try.prog 99 #[.int .i64 kind, .pointer (some ⟨gO, 0, none⟩)] w fun e w' => e = .returned (.func (.func 100) #[] #[.pointer (some ⟨gO, 0, none⟩), .pointer (some ⟨B, 0, none⟩)]) ∧ w' = w.alloc (.cells #[.int .i64 kind] 3) := by
  subst hB; exact trUpMk gO kind w

set_option maxRecDepth 100000 in
set_option maxHeartbeats 8000000 in
theorem trYield_any (tg ng : Int) (vp : Value) (l : List (Int × List (Int × Int))) (F : Nat → Prop) (n : Nat) (t : Tr) (cs : Array Value) (w : World) (hF : ∀ b, F b → b < w.heap.size) (hp : Enc.prods.R F w [vp] l) (ht : (Tr.enc n).R F w cs.toList t) :
    Calls Try.prog 35 #[.agg #[.int .i64 tg, .int .i64 ng, vp], .agg cs] w fun e w' => Below w.heap.size w w' ∧ (Tr.err tg ng l n t ≠ 0 → e = .returned (.tuple #[.slice none 0 0, .int .i64 (Tr.err tg ng l n t)])) ∧
      (Tr.err tg ng l n t = 0 → ∃ v, e = .returned (.tuple #[v, .int .i64 0]) ∧ St w w' [aOwn 3 1 v ((Tr.eachL (fun _ => []) (fun _ => []) (fun t _ => [t]) l n t).map (Value.int .i64))]) := by
  obtain ⟨m, hm, vk, hcs, ⟨hp0, hp1⟩, ⟨hk0, hk1⟩, hk⟩ := Tr.opened ht
  obtain rfl : cs = #[.int .i64 t.prod, .int .i64 t.tok, vk] := Array.toList_inj.1 hcs
  obtain ⟨ak, bk, ok, ck, rfl, -, -, -⟩ := Tr.kidsAt hk
  have hp2 := hp
  obtain ⟨ap, bp, op, cp, rfl, -, -, -⟩ := slProds hp2
  have hst := ((St.init w).alloc #[.int .i64 tg, .int .i64 ng, .slice ap l.length cp] 68).alloc #[.int .i64 t.prod, .int .i64 t.tok, .slice ak t.kids.length ck] 71
  simp only [World.size_alloc] at hst
  have hF2 : ∀ b, F b → b < _ := fun b hb => Nat.lt_of_lt_of_le (hF b hb) hst.bel.size
  have HC := Lib.hid (trCheck_any tg ng _ l F n t _ _ hF2 (Enc.mono _ hp (fun _ h => h) (fun b hb => hst.bel.block b (hF b hb))) (Enc.mono _ ht (fun _ h => h) (fun b hb => hst.bel.block b (hF b hb))))
  have HP := Lib.hid hp; have HT := Lib.hid ht
  have HST := Lib.hid hst
  obtain ⟨g0, g1, g2⟩ := hst.at3 1 rfl
  obtain ⟨z0, z1, z2⟩ := hst.at3 0 rfl
  by_cases he : Tr.err tg ng l n t = 0
  · obtain ⟨he1, he2⟩ := Tr.err_zero he
    obtain ⟨hok, hsz⟩ := Tr.ok_look he2
    have hlen : (Tr.eachL (fun _ => ([] : List Int)) (fun _ => []) (fun t _ => [t]) l n t).length ≤ 2 * Tr.size n t := Tr.eachL_len (fun _ => by simp) (fun _ => by simp) (fun _ _ => by simp) hok
    have HOK := Lib.hid hok; have HL := Lib.hid (Nat.le_trans hlen (Nat.mul_le_mul_left 2 hsz)); have HE := Lib.hid he; have HG := Lib.hid (Gr.err_zero he1)
    clear hst hF2 hp hp2 ht hk hcs hm he he1 he2 hok hsz hlen
    go_enter Try.func35, Try.ntmps35
    go_wp2_with (fail)
    go_at_call 38
    refine HC.out.mono ?_
    rintro e w1 ⟨rfl, hb1⟩
    have hst1 := HST.out.call hb1
    rw [HE.out]
    clear HC hb1 g0 g1 g2 z0 z1 z2
    have hst2 := hst1.alloc #[.slice none 0 0] 35
    obtain ⟨g0, g1, g2⟩ := hst2.at3 2 rfl
    obtain ⟨z0, z1, z2⟩ := hst2.at3 1 rfl
    have hst3 := (hst2.nilAll.get2.nilOwn 3 1).pick (ρ := aCel w1.heap.size 35 #[.slice none 0 0] :: aOwn 3 1 (.slice none 0 0) (([] : List Int).map (Value.int .i64)) :: aAll [] :: _) [1, 0, 2] 3 rfl rfl
    have HN := Lib.hid (trEach_any w w1.heap.size 35 3 1 (Value.int .i64) (aAll []) 94 94 95 #[] #[] #[.pointer (some ⟨w1.heap.size, 0, none⟩)] (fun _ => []) (fun _ => []) (fun t _ => [t]) (trNothing_any _ _ _ _ _ _ _) (trNothing_any _ _ _ _ _ _ _) (trYieldPut_any _ _ _) tg ng _ l F HP.out HG.out.2.2.2.2.1 n t _ [] _ _ HT.out HOK.out (by have := HL.out; simp only [List.length_nil]; omega) ⟨_, hst3⟩)
    clear hst1 hst2 hst3 HST HG HOK HL
    go_wp2_with (fail)
    go_at_call 93
    refine HN.out.mono ?_
    rintro e w2 ⟨rfl, v2, hst4⟩
    obtain ⟨q0, q1⟩ := Tr.cel1 hst4 0 rfl
    have HST4 := Lib.hid hst4
    clear hst4 HN g0 g1 g2 z0 z1 z2
    go_wp2
    go_ret2
    exact ⟨HST4.out.bel, fun h => absurd HE.out h, fun _ => ⟨v2, rfl, HST4.out.nth 1 rfl⟩⟩
  · have hne : (Tr.err tg ng l n t != 0) = true := by simpa using he
    have HE := Lib.hid he
    clear hst hF2 hp hp2 ht hk hcs hm he
    generalize Tr.err tg ng l n t = E at *
    go_enter Try.func35, Try.ntmps35
    go_wp2_with (fail)
    go_at_call 38
    refine HC.out.mono ?_
    rintro e w1 ⟨rfl, hb1⟩
    have hst1 := HST.out.call hb1
    have HST1 := Lib.hid hst1
    clear hst1
    go_wp2
    go_ret2
    exact ⟨HST1.out.bel, fun _ => rfl, fun h => absurd h HE.out⟩

set_option maxRecDepth 100000 in
set_option maxHeartbeats 8000000 in
theorem trDown_any (tg ng : Int) (vp : Value) (l : List (Int × List (Int × Int))) (F : Nat → Prop) (n : Nat) (t : Tr) (cs : Array Value) (w : World) (hF : ∀ b, F b → b < w.heap.size) (hp : Enc.prods.R F w [vp] l) (ht : (Tr.enc n).R F w cs.toList t) :
    Calls Try.prog 36 #[.agg #[.int .i64 tg, .int .i64 ng, vp], .agg cs] w fun e w' => Below w.heap.size w w' ∧ (Tr.err tg ng l n t ≠ 0 → e = .returned (.tuple #[.slice none 0 0, .int .i64 (Tr.err tg ng l n t)])) ∧
      (Tr.err tg ng l n t = 0 → ∃ v, e = .returned (.tuple #[v, .int .i64 0]) ∧ St w w' [aOwn 81 2 v ((Tr.ev true n t).map pairV)]) := by
  obtain ⟨m, hm, vk, hcs, ⟨hp0, hp1⟩, ⟨hk0, hk1⟩, hk⟩ := Tr.opened ht
  obtain rfl : cs = #[.int .i64 t.prod, .int .i64 t.tok, vk] := Array.toList_inj.1 hcs
  obtain ⟨ak, bk, ok, ck, rfl, -, -, -⟩ := Tr.kidsAt hk
  have hp2 := hp
  obtain ⟨ap, bp, op, cp, rfl, -, -, -⟩ := slProds hp2
  have hst := ((St.init w).alloc #[.int .i64 tg, .int .i64 ng, .slice ap l.length cp] 68).alloc #[.int .i64 t.prod, .int .i64 t.tok, .slice ak t.kids.length ck] 71
  simp only [World.size_alloc] at hst
  have hF2 : ∀ b, F b → b < _ := fun b hb => Nat.lt_of_lt_of_le (hF b hb) hst.bel.size
  have HC := Lib.hid (trCheck_any tg ng _ l F n t _ _ hF2 (Enc.mono _ hp (fun _ h => h) (fun b hb => hst.bel.block b (hF b hb))) (Enc.mono _ ht (fun _ h => h) (fun b hb => hst.bel.block b (hF b hb))))
  have HP := Lib.hid hp; have HT := Lib.hid ht
  have HST := Lib.hid hst
  obtain ⟨g0, g1, g2⟩ := hst.at3 1 rfl
  obtain ⟨z0, z1, z2⟩ := hst.at3 0 rfl
  by_cases he : Tr.err tg ng l n t = 0
  · obtain ⟨he1, he2⟩ := Tr.err_zero he
    obtain ⟨hok, hsz⟩ := Tr.ok_look he2
    have hlen : (Tr.eachL (β := Int × Int) (fun n => [(1, n)]) (fun n => [(3, n)]) (fun _ n => [(2, n)]) l n t).length ≤ 2 * Tr.size n t := Tr.eachL_len (fun _ => by simp) (fun _ => by simp) (fun _ _ => by simp) hok
    have HEV := Lib.hid (show Tr.eachL (β := Int × Int) (fun n => [(1, n)]) (fun n => [(3, n)]) (fun _ n => [(2, n)]) l n t = Tr.ev true n t from Tr.ev_each true hok)
    have HOK := Lib.hid hok; have HL := Lib.hid (Nat.le_trans hlen (Nat.mul_le_mul_left 2 hsz)); have HE := Lib.hid he; have HG := Lib.hid (Gr.err_zero he1)
    clear hst hF2 hp hp2 ht hk hcs hm he he1 he2 hok hsz hlen
    go_enter Try.func36, Try.ntmps36
    go_wp2_with (fail)
    go_at_call 38
    refine HC.out.mono ?_
    rintro e w1 ⟨rfl, hb1⟩
    have hst1 := HST.out.call hb1
    rw [HE.out]
    clear HC hb1 g0 g1 g2 z0 z1 z2
    have hcf := fun args W => Tr.callC (c := 96) Try.func96 (by kernel_rfl) (by kernel_rfl) args W
    have hst2 := (hst1.alloc #[.slice none 0 0] 75).alloc #[.func (.func 96) #[] #[.pointer (some ⟨w1.heap.size, 0, none⟩)]] 191
    simp only [World.size_alloc] at hst2
    obtain ⟨g0, g1, g2⟩ := hst2.at3 3 rfl
    obtain ⟨z0, z1, z2⟩ := hst2.at3 2 rfl
    obtain ⟨x0, -⟩ := Tr.cel1 hst2 0 rfl
    have hst3 := hst2.drew.alloc #[.int .i64 1] 3
    have hst4 := hst3.alloc #[.int .i64 3] 3
    simp only [World.size_alloc, World.size_drew] at hst3 hst4
    have hst5 := ((hst4.nilAll.pick [3, 0, 1, 2, 4, 5, 6] 7 rfl rfl).snoc.pick [2, 0, 1, 3, 4, 5] 6 rfl rfl).snoc.pick [1, 0, 2, 3, 4] 5 rfl rfl
    obtain ⟨gP, hgP⟩ : ∃ g, w1.heap.size + 1 = g := ⟨_, rfl⟩
    obtain ⟨A, hA⟩ : ∃ A, aAll [aCel (w1.heap.size + 1) 191 #[.func (.func 96) #[] #[.pointer (some ⟨w1.heap.size, 0, none⟩)]], aCel (w1.heap.size + 1 + 1) 3 #[.int .i64 1], aCel (w1.heap.size + 1 + 1 + 1) 3 #[.int .i64 3]] = A := ⟨_, rfl⟩
    have hAP : ∀ w, A.ok w → w.cell? ⟨w1.heap.size + 1, 0, none⟩ = some (.func (.func 96) #[] #[.pointer (some ⟨w1.heap.size, 0, none⟩)]) := fun w h => Tr.cel_of (by rw [← hA] at h; exact h _ (.head _)) rfl
    have hA1 : ∀ w, A.ok w → w.cell? ⟨w1.heap.size + 1 + 1, 0, none⟩ = some (.int .i64 1) := fun w h => Tr.cel_of (by rw [← hA] at h; exact h _ (.tail _ (.head _))) rfl
    have hA3 : ∀ w, A.ok w → w.cell? ⟨w1.heap.size + 1 + 1 + 1, 0, none⟩ = some (.int .i64 3) := fun w h => Tr.cel_of (by rw [← hA] at h; exact h _ (.tail _ (.tail _ (.head _)))) rfl
    have hst6 := hst5.snoc
    rw [show (([] ++ [aCel (w1.heap.size + 1) 191 #[.func (.func 96) #[] #[.pointer (some ⟨w1.heap.size, 0, none⟩)]]]) ++ [aCel (w1.heap.size + 1 + 1) 3 #[.int .i64 1]]) ++ [aCel (w1.heap.size + 1 + 1 + 1) 3 #[.int .i64 3]] = [aCel (w1.heap.size + 1) 191 #[.func (.func 96) #[] #[.pointer (some ⟨w1.heap.size, 0, none⟩)]], aCel (w1.heap.size + 1 + 1) 3 #[.int .i64 1], aCel (w1.heap.size + 1 + 1 + 1) 3 #[.int .i64 3]] from rfl, hA] at hst6
    have hst7 := (hst6.nilOwn 81 2).pick (ρ := aCel w1.heap.size 75 #[.slice none 0 0] :: aOwn 81 2 (.slice none 0 0) (([] : List (Int × Int)).map pairV) :: A :: _) [2, 0, 1] 3 rfl rfl
    have HN := Lib.hid (trEach_any w w1.heap.size 75 81 2 pairV A 97 97 98 #[.pointer (some ⟨w1.heap.size, 0, none⟩), .pointer (some ⟨w1.heap.size + 1 + 1, 0, none⟩)] #[.pointer (some ⟨w1.heap.size, 0, none⟩), .pointer (some ⟨w1.heap.size + 1 + 1 + 1, 0, none⟩)] #[.pointer (some ⟨w1.heap.size + 1, 0, none⟩)] (fun n => [(1, n)]) (fun n => [(3, n)]) (fun _ n => [(2, n)]) (trDownKind _ _ _ _ _ hA1) (trDownKind _ _ _ _ _ hA3) (trDownLeaf _ _ _ _ hAP) tg ng _ l F HP.out HG.out.2.2.2.2.1 n t _ [] _ _ HT.out HOK.out (by have := HL.out; simp only [List.length_nil]; omega) ⟨_, hst7⟩)
    have HS3 := Lib.hid hst3; have HS4 := Lib.hid hst4
    have HAP := Lib.hid hAP
    clear hst3 hst4 hst5 hst6 hst7 hA hAP hA1 hA3 hgP hst1 hst2 HST
    go_wp2_with (fail)
    refine wp_region_held_drew (S := (fun w' => w'.cell? ⟨w.heap.size, 0, none⟩ = some (.int .i64 tg) ∧ w'.cell? ⟨w.heap.size, 1, none⟩ = some (.int .i64 ng) ∧ w'.cell? ⟨w.heap.size, 2, none⟩ = some (.slice ap l.length cp) ∧ w'.cell? ⟨w.heap.size + 1, 0, none⟩ = some (.int .i64 t.prod) ∧ w'.cell? ⟨w.heap.size + 1, 1, none⟩ = some (.int .i64 t.tok) ∧ w'.cell? ⟨w.heap.size + 1, 2, none⟩ = some (.slice ak t.kids.length ck) ∧ w'.cell? ⟨w1.heap.size + 1, 0, none⟩ = some (.func (.func 96) #[] #[.pointer (some ⟨w1.heap.size, 0, none⟩)]))) (by kernel_rfl) ?_ (fun hHeld => ?_)
    · (try dsimp only); (first | exact ⟨g0, g1, g2, z0, z1, z2, x0⟩ | go_keep)

    refine wpAnyH_take (i := 0) (v := ?_) rfl (by kernel_rfl) (by kernel_rfl) (by kernel_rfl) (fun _ _ _ h => h) (Or.inl ⟨by rfl, ?_⟩) (by assumption) ?_
    rotate_left; focus (intro w hSw; (try dsimp only at hSw); go_simp; try (with_reducible rfl); done)
    try simp only [List.getElem_toArray, List.getElem_cons_zero, List.getElem_cons_succ, Act.put, List.setIfInBounds_toArray, List.set_cons_zero, List.set_cons_succ]
    refine wpAnyH_take (i := 1) (v := ?_) rfl (by kernel_rfl) (by kernel_rfl) (by kernel_rfl) (fun _ _ _ h => h) (Or.inl ⟨by rfl, ?_⟩) (by assumption) ?_
    rotate_left; focus (intro w hSw; (try dsimp only at hSw); go_simp; try (with_reducible rfl); done)
    try simp only [List.getElem_toArray, List.getElem_cons_zero, List.getElem_cons_succ, Act.put, List.setIfInBounds_toArray, List.set_cons_zero, List.set_cons_succ]
    refine wpAnyH_take (i := 2) (v := ?_) rfl (by kernel_rfl) (by kernel_rfl) (by kernel_rfl) (fun _ _ _ h => h) (Or.inl ⟨by rfl, ?_⟩) (by assumption) ?_
    rotate_left; focus (intro w hSw; (try dsimp only at hSw); go_simp; try (with_reducible rfl); done)
    try simp only [List.getElem_toArray, List.getElem_cons_zero, List.getElem_cons_succ, Act.put, List.setIfInBounds_toArray, List.set_cons_zero, List.set_cons_succ]
    refine wpAnyH_take (i := 4) (v := ?_) rfl (by kernel_rfl) (by kernel_rfl) (by kernel_rfl) (fun _ _ _ h => h) (Or.inl ⟨by rfl, ?_⟩) (by assumption) ?_
    rotate_left; focus (intro w hSw; (try dsimp only at hSw); go_simp; try (with_reducible rfl); done)
    try simp only [List.getElem_toArray, List.getElem_cons_zero, List.getElem_cons_succ, Act.put, List.setIfInBounds_toArray, List.set_cons_zero, List.set_cons_succ]
    refine wpAnyH_take (i := 6) (v := ?_) rfl (by kernel_rfl) (by kernel_rfl) (by kernel_rfl) (fun _ _ _ h => h) (Or.inl ⟨by rfl, ?_⟩) (by assumption) ?_
    rotate_left; focus (intro w hSw; (try dsimp only at hSw); go_simp; try (with_reducible rfl); done)
    try simp only [List.getElem_toArray, List.getElem_cons_zero, List.getElem_cons_succ, Act.put, List.setIfInBounds_toArray, List.set_cons_zero, List.set_cons_succ]
    refine wpAnyH_ready (rs := [3]) (by kernel_rfl) (by simp) ?_
    refine AllReadyH.cons rfl (fun K hK => ?_) AllReadyH.nil
    go_simp
    (first | (refine (trDownMkB w1.heap.size (w1.heap.size + 1 + 1) 1 _ (by simp)).mono ?_; rintro e w3 ⟨rfl, rfl⟩; obtain ⟨g0, g1, g2⟩ := HS3.out.at3 4 rfl; obtain ⟨z0, z1, z2⟩ := HS3.out.at3 3 rfl; obtain ⟨x0, -⟩ := Tr.cel1 HS3.out 1 rfl) | (refine (trDownMkB w1.heap.size (w1.heap.size + 1 + 1 + 1) 3 _ (by simp)).mono ?_; rintro e w4 ⟨rfl, rfl⟩; obtain ⟨g0, g1, g2⟩ := HS4.out.at3 5 rfl; obtain ⟨z0, z1, z2⟩ := HS4.out.at3 4 rfl; obtain ⟨x0, -⟩ := Tr.cel1 HS4.out 2 rfl) | (go_at_call 93; refine HN.out.mono ?_; rintro e w5 ⟨rfl, v2, hst8⟩; have HST8 := Lib.hid hst8; obtain ⟨g0, g1, g2⟩ := hst8.at3 4 rfl; obtain ⟨z0, z1, z2⟩ := hst8.at3 3 rfl; have x0 := HAP.out _ (hst8.ok A (.tail _ (.tail _ (.head _)))); obtain ⟨q0, q1⟩ := Tr.cel1 hst8 0 rfl; clear hst8))
    refine hK.out _ _ ?_ (fun hHeld => ?_)
    · (try dsimp only); (first | exact ⟨g0, g1, g2, z0, z1, z2, x0⟩ | go_keep)
    clear hK K
    try simp only [List.getElem_toArray, List.getElem_cons_zero, List.getElem_cons_succ, Act.put, List.setIfInBounds_toArray, List.set_cons_zero, List.set_cons_succ]
    refine wpAnyH_ready (rs := [5]) (by kernel_rfl) (by simp) ?_
    refine AllReadyH.cons rfl (fun K hK => ?_) AllReadyH.nil
    go_simp
    (first | (refine (trDownMkB w1.heap.size (w1.heap.size + 1 + 1) 1 _ (by simp)).mono ?_; rintro e w3 ⟨rfl, rfl⟩; obtain ⟨g0, g1, g2⟩ := HS3.out.at3 4 rfl; obtain ⟨z0, z1, z2⟩ := HS3.out.at3 3 rfl; obtain ⟨x0, -⟩ := Tr.cel1 HS3.out 1 rfl) | (refine (trDownMkB w1.heap.size (w1.heap.size + 1 + 1 + 1) 3 _ (by simp)).mono ?_; rintro e w4 ⟨rfl, rfl⟩; obtain ⟨g0, g1, g2⟩ := HS4.out.at3 5 rfl; obtain ⟨z0, z1, z2⟩ := HS4.out.at3 4 rfl; obtain ⟨x0, -⟩ := Tr.cel1 HS4.out 2 rfl) | (go_at_call 93; refine HN.out.mono ?_; rintro e w5 ⟨rfl, v2, hst8⟩; have HST8 := Lib.hid hst8; obtain ⟨g0, g1, g2⟩ := hst8.at3 4 rfl; obtain ⟨z0, z1, z2⟩ := hst8.at3 3 rfl; have x0 := HAP.out _ (hst8.ok A (.tail _ (.tail _ (.head _)))); obtain ⟨q0, q1⟩ := Tr.cel1 hst8 0 rfl; clear hst8))
    refine hK.out _ _ ?_ (fun hHeld => ?_)
    · (try dsimp only); (first | exact ⟨g0, g1, g2, z0, z1, z2, x0⟩ | go_keep)
    clear hK K
    try simp only [List.getElem_toArray, List.getElem_cons_zero, List.getElem_cons_succ, Act.put, List.setIfInBounds_toArray, List.set_cons_zero, List.set_cons_succ]
    refine wpAnyH_ready (rs := [7]) (by kernel_rfl) (by simp) ?_
    refine AllReadyH.cons rfl (fun K hK => ?_) AllReadyH.nil
    go_simp
    (first | (refine (trDownMkB w1.heap.size (w1.heap.size + 1 + 1) 1 _ (by simp)).mono ?_; rintro e w3 ⟨rfl, rfl⟩; obtain ⟨g0, g1, g2⟩ := HS3.out.at3 4 rfl; obtain ⟨z0, z1, z2⟩ := HS3.out.at3 3 rfl; obtain ⟨x0, -⟩ := Tr.cel1 HS3.out 1 rfl) | (refine (trDownMkB w1.heap.size (w1.heap.size + 1 + 1 + 1) 3 _ (by simp)).mono ?_; rintro e w4 ⟨rfl, rfl⟩; obtain ⟨g0, g1, g2⟩ := HS4.out.at3 5 rfl; obtain ⟨z0, z1, z2⟩ := HS4.out.at3 4 rfl; obtain ⟨x0, -⟩ := Tr.cel1 HS4.out 2 rfl) | (go_at_call 93; refine HN.out.mono ?_; rintro e w5 ⟨rfl, v2, hst8⟩; have HST8 := Lib.hid hst8; obtain ⟨g0, g1, g2⟩ := hst8.at3 4 rfl; obtain ⟨z0, z1, z2⟩ := hst8.at3 3 rfl; have x0 := HAP.out _ (hst8.ok A (.tail _ (.tail _ (.head _)))); obtain ⟨q0, q1⟩ := Tr.cel1 hst8 0 rfl; clear hst8))
    refine hK.out _ _ ?_ (fun hHeld => ?_)
    · (try dsimp only); (first | exact ⟨g0, g1, g2, z0, z1, z2, x0⟩ | go_keep)
    clear hK K
    try simp only [List.getElem_toArray, List.getElem_cons_zero, List.getElem_cons_succ, Act.put, List.setIfInBounds_toArray, List.set_cons_zero, List.set_cons_succ]
    refine wpAnyH_done (by kernel_rfl) ?_ _
    clear HN g0 g1 g2 z0 z1 z2 x0 HS3 HS4
    go_wp2
    go_ret2
    exact ⟨HST8.out.bel, fun h => absurd HE.out h, fun _ => ⟨v2, rfl, by rw [← HEV.out]; exact HST8.out.nth 1 rfl⟩⟩
  · have hne : (Tr.err tg ng l n t != 0) = true := by simpa using he
    have HE := Lib.hid he
    clear hst hF2 hp hp2 ht hk hcs hm he
    generalize Tr.err tg ng l n t = E at *
    go_enter Try.func36, Try.ntmps36
    go_wp2_with (fail)
    go_at_call 38
    refine HC.out.mono ?_
    rintro e w1 ⟨rfl, hb1⟩
    have hst1 := HST.out.call hb1
    have HST1 := Lib.hid hst1
    clear hst1
    go_wp2
    go_ret2
    exact ⟨HST1.out.bel, fun _ => rfl, fun h => absurd h HE.out⟩

set_option maxRecDepth 100000 in
set_option maxHeartbeats 8000000 in
theorem trUp_any (tg ng : Int) (vp : Value) (l : List (Int × List (Int × Int))) (F : Nat → Prop) (n : Nat) (t : Tr) (cs : Array Value) (w : World) (hF : ∀ b, F b → b < w.heap.size) (hp : Enc.prods.R F w [vp] l) (ht : (Tr.enc n).R F w cs.toList t) :
    Calls Try.prog 37 #[.agg #[.int .i64 tg, .int .i64 ng, vp], .agg cs] w fun e w' => Below w.heap.size w w' ∧ (Tr.err tg ng l n t ≠ 0 → e = .returned (.tuple #[.slice none 0 0, .int .i64 (Tr.err tg ng l n t)])) ∧
      (Tr.err tg ng l n t = 0 → ∃ v, e = .returned (.tuple #[v, .int .i64 0]) ∧ St w w' [aOwn 81 2 v ((Tr.ev false n t).map pairV)]) := by
  obtain ⟨m, hm, vk, hcs, ⟨hp0, hp1⟩, ⟨hk0, hk1⟩, hk⟩ := Tr.opened ht
  obtain rfl : cs = #[.int .i64 t.prod, .int .i64 t.tok, vk] := Array.toList_inj.1 hcs
  obtain ⟨ak, bk, ok, ck, rfl, -, -, -⟩ := Tr.kidsAt hk
  have hp2 := hp
  obtain ⟨ap, bp, op, cp, rfl, -, -, -⟩ := slProds hp2
  have hst := ((St.init w).alloc #[.int .i64 tg, .int .i64 ng, .slice ap l.length cp] 68).alloc #[.int .i64 t.prod, .int .i64 t.tok, .slice ak t.kids.length ck] 71
  simp only [World.size_alloc] at hst
  have hF2 : ∀ b, F b → b < _ := fun b hb => Nat.lt_of_lt_of_le (hF b hb) hst.bel.size
  have HC := Lib.hid (trCheck_any tg ng _ l F n t _ _ hF2 (Enc.mono _ hp (fun _ h => h) (fun b hb => hst.bel.block b (hF b hb))) (Enc.mono _ ht (fun _ h => h) (fun b hb => hst.bel.block b (hF b hb))))
  have HP := Lib.hid hp; have HT := Lib.hid ht
  have HST := Lib.hid hst
  obtain ⟨g0, g1, g2⟩ := hst.at3 1 rfl
  obtain ⟨z0, z1, z2⟩ := hst.at3 0 rfl
  by_cases he : Tr.err tg ng l n t = 0
  · obtain ⟨he1, he2⟩ := Tr.err_zero he
    obtain ⟨hok, hsz⟩ := Tr.ok_look he2
    have hlen : (Tr.eachL (β := Int × Int) (fun _ => []) (fun n => [(4, n)]) (fun _ n => [(2, n)]) l n t).length ≤ 2 * Tr.size n t := Tr.eachL_len (fun _ => by simp) (fun _ => by simp) (fun _ _ => by simp) hok
    have HEV := Lib.hid (show Tr.eachL (β := Int × Int) (fun _ => []) (fun n => [(4, n)]) (fun _ n => [(2, n)]) l n t = Tr.ev false n t from Tr.ev_each false hok)
    have HOK := Lib.hid hok; have HL := Lib.hid (Nat.le_trans hlen (Nat.mul_le_mul_left 2 hsz)); have HE := Lib.hid he; have HG := Lib.hid (Gr.err_zero he1)
    clear hst hF2 hp hp2 ht hk hcs hm he he1 he2 hok hsz hlen
    go_enter Try.func37, Try.ntmps37
    go_wp2_with (fail)
    go_at_call 38
    refine HC.out.mono ?_
    rintro e w1 ⟨rfl, hb1⟩
    have hst1 := HST.out.call hb1
    rw [HE.out]
    clear HC hb1 g0 g1 g2 z0 z1 z2
    have hcf := fun args W => Tr.callC (c := 99) Try.func99 (by kernel_rfl) (by kernel_rfl) args W
    have hst2 := (hst1.alloc #[.slice none 0 0] 75).alloc #[.func (.func 99) #[] #[.pointer (some ⟨w1.heap.size, 0, none⟩)]] 191
    simp only [World.size_alloc] at hst2
    obtain ⟨g0, g1, g2⟩ := hst2.at3 3 rfl
    obtain ⟨z0, z1, z2⟩ := hst2.at3 2 rfl
    obtain ⟨x0, -⟩ := Tr.cel1 hst2 0 rfl
    have hst3 := hst2.drew.alloc #[.int .i64 4] 3
    simp only [World.size_alloc, World.size_drew] at hst3
    have hst5 := (hst3.nilAll.pick [2, 0, 1, 3, 4, 5] 6 rfl rfl).snoc.pick [1, 0, 2, 3, 4] 5 rfl rfl
    obtain ⟨gP, hgP⟩ : ∃ g, w1.heap.size + 1 = g := ⟨_, rfl⟩
    obtain ⟨A, hA⟩ : ∃ A, aAll [aCel (w1.heap.size + 1) 191 #[.func (.func 99) #[] #[.pointer (some ⟨w1.heap.size, 0, none⟩)]], aCel (w1.heap.size + 1 + 1) 3 #[.int .i64 4]] = A := ⟨_, rfl⟩
    have hAP : ∀ w, A.ok w → w.cell? ⟨w1.heap.size + 1, 0, none⟩ = some (.func (.func 99) #[] #[.pointer (some ⟨w1.heap.size, 0, none⟩)]) := fun w h => Tr.cel_of (by rw [← hA] at h; exact h _ (.head _)) rfl
    have hA1 : ∀ w, A.ok w → w.cell? ⟨w1.heap.size + 1 + 1, 0, none⟩ = some (.int .i64 4) := fun w h => Tr.cel_of (by rw [← hA] at h; exact h _ (.tail _ (.head _))) rfl
    have hst6 := hst5.snoc
    rw [show ([] ++ [aCel (w1.heap.size + 1) 191 #[.func (.func 99) #[] #[.pointer (some ⟨w1.heap.size, 0, none⟩)]]]) ++ [aCel (w1.heap.size + 1 + 1) 3 #[.int .i64 4]] = [aCel (w1.heap.size + 1) 191 #[.func (.func 99) #[] #[.pointer (some ⟨w1.heap.size, 0, none⟩)]], aCel (w1.heap.size + 1 + 1) 3 #[.int .i64 4]] from rfl, hA] at hst6
    have hst7 := (hst6.nilOwn 81 2).pick (ρ := aCel w1.heap.size 75 #[.slice none 0 0] :: aOwn 81 2 (.slice none 0 0) (([] : List (Int × Int)).map pairV) :: A :: _) [2, 0, 1] 3 rfl rfl
    have HN := Lib.hid (trEach_any w w1.heap.size 75 81 2 pairV A 94 100 101 #[] #[.pointer (some ⟨w1.heap.size, 0, none⟩), .pointer (some ⟨w1.heap.size + 1 + 1, 0, none⟩)] #[.pointer (some ⟨w1.heap.size + 1, 0, none⟩)] (fun _ => []) (fun n => [(4, n)]) (fun _ n => [(2, n)]) (trNothing_any _ _ _ _ _ _ _) (trUpKind _ _ _ _ _ hA1) (trUpLeaf _ _ _ _ hAP) tg ng _ l F HP.out HG.out.2.2.2.2.1 n t _ [] _ _ HT.out HOK.out (by have := HL.out; simp only [List.length_nil]; omega) ⟨_, hst7⟩)
    have HS3 := Lib.hid hst3
    have HAP := Lib.hid hAP
    clear hst3 hst5 hst6 hst7 hA hAP hA1 hgP hst1 hst2 HST
    go_wp2_with (fail)
    refine wp_region_held_drew (S := (fun w' => w'.cell? ⟨w.heap.size, 0, none⟩ = some (.int .i64 tg) ∧ w'.cell? ⟨w.heap.size, 1, none⟩ = some (.int .i64 ng) ∧ w'.cell? ⟨w.heap.size, 2, none⟩ = some (.slice ap l.length cp) ∧ w'.cell? ⟨w.heap.size + 1, 0, none⟩ = some (.int .i64 t.prod) ∧ w'.cell? ⟨w.heap.size + 1, 1, none⟩ = some (.int .i64 t.tok) ∧ w'.cell? ⟨w.heap.size + 1, 2, none⟩ = some (.slice ak t.kids.length ck) ∧ w'.cell? ⟨w1.heap.size + 1, 0, none⟩ = some (.func (.func 99) #[] #[.pointer (some ⟨w1.heap.size, 0, none⟩)]))) (by kernel_rfl) ?_ (fun hHeld => ?_)
    · (try dsimp only); (first | exact ⟨g0, g1, g2, z0, z1, z2, x0⟩ | go_keep)

    refine wpAnyH_take (i := 0) (v := ?_) rfl (by kernel_rfl) (by kernel_rfl) (by kernel_rfl) (fun _ _ _ h => h) (Or.inl ⟨by rfl, ?_⟩) (by assumption) ?_
    rotate_left; focus (intro w hSw; (try dsimp only at hSw); go_simp; try (with_reducible rfl); done)
    try simp only [List.getElem_toArray, List.getElem_cons_zero, List.getElem_cons_succ, Act.put, List.setIfInBounds_toArray, List.set_cons_zero, List.set_cons_succ]
    refine wpAnyH_take (i := 1) (v := ?_) rfl (by kernel_rfl) (by kernel_rfl) (by kernel_rfl) (fun _ _ _ h => h) (Or.inl ⟨by rfl, ?_⟩) (by assumption) ?_
    rotate_left; focus (intro w hSw; (try dsimp only at hSw); go_simp; try (with_reducible rfl); done)
    try simp only [List.getElem_toArray, List.getElem_cons_zero, List.getElem_cons_succ, Act.put, List.setIfInBounds_toArray, List.set_cons_zero, List.set_cons_succ]
    refine wpAnyH_take (i := 2) (v := ?_) rfl (by kernel_rfl) (by kernel_rfl) (by kernel_rfl) (fun _ _ _ h => h) (Or.inl ⟨by rfl, ?_⟩) (by assumption) ?_
    rotate_left; focus (intro w hSw; (try dsimp only at hSw); go_simp; try (with_reducible rfl); done)
    try simp only [List.getElem_toArray, List.getElem_cons_zero, List.getElem_cons_succ, Act.put, List.setIfInBounds_toArray, List.set_cons_zero, List.set_cons_succ]
    refine wpAnyH_take (i := 4) (v := ?_) rfl (by kernel_rfl) (by kernel_rfl) (by kernel_rfl) (fun _ _ _ h => h) (Or.inl ⟨by rfl, ?_⟩) (by assumption) ?_
    rotate_left; focus (intro w hSw; (try dsimp only at hSw); go_simp; try (with_reducible rfl); done)
    try simp only [List.getElem_toArray, List.getElem_cons_zero, List.getElem_cons_succ, Act.put, List.setIfInBounds_toArray, List.set_cons_zero, List.set_cons_succ]
    refine wpAnyH_ready (rs := [3]) (by kernel_rfl) (by simp) ?_
    refine AllReadyH.cons rfl (fun K hK => ?_) AllReadyH.nil
    go_simp
    (first | (refine (trUpMkB w1.heap.size (w1.heap.size + 1 + 1) 4 _ (by simp)).mono ?_; rintro e w3 ⟨rfl, rfl⟩; obtain ⟨g0, g1, g2⟩ := HS3.out.at3 4 rfl; obtain ⟨z0, z1, z2⟩ := HS3.out.at3 3 rfl; obtain ⟨x0, -⟩ := Tr.cel1 HS3.out 1 rfl) | (go_at_call 93; refine HN.out.mono ?_; rintro e w5 ⟨rfl, v2, hst8⟩; have HST8 := Lib.hid hst8; obtain ⟨g0, g1, g2⟩ := hst8.at3 4 rfl; obtain ⟨z0, z1, z2⟩ := hst8.at3 3 rfl; have x0 := HAP.out _ (hst8.ok A (.tail _ (.tail _ (.head _)))); obtain ⟨q0, q1⟩ := Tr.cel1 hst8 0 rfl; clear hst8))
    refine hK.out _ _ ?_ (fun hHeld => ?_)
    · (try dsimp only); (first | exact ⟨g0, g1, g2, z0, z1, z2, x0⟩ | go_keep)
    clear hK K
    try simp only [List.getElem_toArray, List.getElem_cons_zero, List.getElem_cons_succ, Act.put, List.setIfInBounds_toArray, List.set_cons_zero, List.set_cons_succ]
    refine wpAnyH_ready (rs := [5]) (by kernel_rfl) (by simp) ?_
    refine AllReadyH.cons rfl (fun K hK => ?_) AllReadyH.nil
    go_simp
    (first | (refine (trUpMkB w1.heap.size (w1.heap.size + 1 + 1) 4 _ (by simp)).mono ?_; rintro e w3 ⟨rfl, rfl⟩; obtain ⟨g0, g1, g2⟩ := HS3.out.at3 4 rfl; obtain ⟨z0, z1, z2⟩ := HS3.out.at3 3 rfl; obtain ⟨x0, -⟩ := Tr.cel1 HS3.out 1 rfl) | (go_at_call 93; refine HN.out.mono ?_; rintro e w5 ⟨rfl, v2, hst8⟩; have HST8 := Lib.hid hst8; obtain ⟨g0, g1, g2⟩ := hst8.at3 4 rfl; obtain ⟨z0, z1, z2⟩ := hst8.at3 3 rfl; have x0 := HAP.out _ (hst8.ok A (.tail _ (.tail _ (.head _)))); obtain ⟨q0, q1⟩ := Tr.cel1 hst8 0 rfl; clear hst8))
    refine hK.out _ _ ?_ (fun hHeld => ?_)
    · (try dsimp only); (first | exact ⟨g0, g1, g2, z0, z1, z2, x0⟩ | go_keep)
    clear hK K
    try simp only [List.getElem_toArray, List.getElem_cons_zero, List.getElem_cons_succ, Act.put, List.setIfInBounds_toArray, List.set_cons_zero, List.set_cons_succ]
    refine wpAnyH_done (by kernel_rfl) ?_ _
    clear HN g0 g1 g2 z0 z1 z2 x0 HS3
    go_wp2
    go_ret2
    exact ⟨HST8.out.bel, fun h => absurd HE.out h, fun _ => ⟨v2, rfl, by rw [← HEV.out]; exact HST8.out.nth 1 rfl⟩⟩
  · have hne : (Tr.err tg ng l n t != 0) = true := by simpa using he
    have HE := Lib.hid he
    clear hst hF2 hp hp2 ht hk hcs hm he
    generalize Tr.err tg ng l n t = E at *
    go_enter Try.func37, Try.ntmps37
    go_wp2_with (fail)
    go_at_call 38
    refine HC.out.mono ?_
    rintro e w1 ⟨rfl, hb1⟩
    have hst1 := HST.out.call hb1
    have HST1 := Lib.hid hst1
    clear hst1
    go_wp2
    go_ret2
    exact ⟨HST1.out.bel, fun _ => rfl, fun h => absurd h HE.out⟩
end Go.Proofs.Ytldapomcjfkeeaa
