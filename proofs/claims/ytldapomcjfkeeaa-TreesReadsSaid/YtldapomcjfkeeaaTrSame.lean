/-
  SameTree of the reference; start and told of package trees; inOrder.
-/
import Derived.Test.YtldapomcjfkeeaaTrM
import Derived.Test.YtldapomcjfkeeaaTrChk
import Derived.Deep.LoopGhost
import Derived.Laws.ResultCell
namespace Go.Proofs.Ytldapomcjfkeeaa
set_option linter.unusedVariables false
set_option linter.unusedSimpArgs false
open Go.ChangeShapes Go.WideShapes Go.ChangeAt Go.RowKit

set_option maxRecDepth 100000 in
set_option maxHeartbeats 8000000 in
theorem sameTree_any : ∀ (n : Nat) (t : Tr) (c1 c2 : Array Value) (w : World) (F1 F2 : Nat → Prop), (∀ b, F1 b → b < w.heap.size) → (∀ b, F2 b → b < w.heap.size) → (Tr.enc n).R F1 w c1.toList t → (Tr.enc n).R F2 w c2.toList t →
    Calls Try.prog 52 #[.agg c1, .agg c2] w fun e w' => e = .returned (.bool true) ∧ Below w.heap.size w w' := by
  intro n
  induction n with
  | zero => intro t c1 c2 w F1 F2 _ _ h; exact h.elim
  | succ n ih =>
    intro t c1 c2 w F1 F2 hF1 hF2 ht1 ht2
    obtain ⟨m, hm, vk, hcs, ⟨hp0, hp1⟩, ⟨hk0, hk1⟩, hk⟩ := Tr.opened ht1
    obtain rfl : n = m := by omega
    obtain rfl : c1 = #[.int .i64 t.prod, .int .i64 t.tok, vk] := Array.toList_inj.1 hcs
    obtain ⟨ak, bk, ok, ck, rfl, hkl, k3, k4⟩ := Tr.kidsAt hk
    obtain ⟨m, hm', vj, hcs', -, -, hj⟩ := Tr.opened ht2
    obtain rfl : n = m := by omega
    obtain rfl : c2 = #[.int .i64 t.prod, .int .i64 t.tok, vj] := Array.toList_inj.1 hcs'
    obtain ⟨aj, bj, oj, cj, rfl, -, j3, j4⟩ := Tr.kidsAt hj
    have hst := ((St.init w).alloc #[.int .i64 t.prod, .int .i64 t.tok, .slice ak t.kids.length ck] 71).alloc #[.int .i64 t.prod, .int .i64 t.tok, .slice aj t.kids.length cj] 71
    simp only [World.size_alloc] at hst
    have K3 := Lib.hid k3; have K4 := Lib.hid k4; have J3 := Lib.hid j3; have J4 := Lib.hid j4; have IH := Lib.hid ih
    have HF1 := Lib.hid hF1; have HF2 := Lib.hid hF2
    have HST := Lib.hid hst
    have hll : (t.kids.length : Int) ≤ 140737488355328 := by omega
    obtain ⟨x0, x1, x2⟩ := hst.at3 1 rfl
    obtain ⟨y0, y1, y2⟩ := hst.at3 0 rfl
    clear hst k3 k4 j3 j4 ih hF1 hF2 ht1 ht2 hk hj hcs hcs' hm hm' hkl
    generalize t.prod = pr at *
    generalize t.tok = tk at *
    generalize t.kids = ks at *
    have hn1 : (pr != pr) = false := by rw [bne_eq_false_iff_eq]
    have hn2 : (tk != tk) = false := by rw [bne_eq_false_iff_eq]
    have hn3 : ((ks.length : Int) != (ks.length : Int)) = false := by rw [bne_eq_false_iff_eq]
    go_enter Try.func52, Try.ntmps52
    go_wp2
    clear hn1 hn2 hn3
    go_loopg [5] ks.length (fun gk i wr => ∃ k : Nat, k ≤ ks.length ∧ gk = ks.length - k ∧ i = .int .i64 k ∧ St w wr [aCel (w.heap.size + 1) 71 #[.int .i64 pr, .int .i64 tk, .slice aj ks.length cj], aCel w.heap.size 71 #[.int .i64 pr, .int .i64 tk, .slice ak ks.length ck]])
    case atStart => exact ⟨0, by omega, by omega, rfl, HST.out⟩
    case round =>
      clear HST x0 x1 x2 y0 y1 y2
      obtain ⟨k, hk, hgk, rfl, hst⟩ := hrel
      have HGK := Lib.hid hgk
      clear hgk
      obtain ⟨x0, x1, x2⟩ := hst.at3 1 rfl
      obtain ⟨y0, y1, y2⟩ := hst.at3 0 rfl
      have HST := Lib.hid hst
      by_cases hlt3 : k < ks.length
      · obtain ⟨rfl, -, -⟩ := K3.out (by omega)
        obtain ⟨rfl, -, -⟩ := J3.out (by omega)
        obtain ⟨ka, kc, d0, d1, d2, hkid⟩ := K4.out k hlt3
        obtain ⟨ja, jc, e0, e1, e2, hjid⟩ := J4.out k hlt3
        have D0 := Lib.hid d0; have D1 := Lib.hid d1; have D2 := Lib.hid d2
        have E0 := Lib.hid e0; have E1 := Lib.hid e1; have E2 := Lib.hid e2
        have d0 := bkeep hst.bel d0; have d1 := bkeep hst.bel d1; have d2 := bkeep hst.bel d2
        have e0 := bkeep hst.bel e0; have e1 := bkeep hst.bel e1; have e2 := bkeep hst.bel e2
        have hlt4 : (k : Int) < ks.length := by omega
        have HC := Lib.hid (fun W (hW : Below w.heap.size w W) => IH.out (ks.getD k Tr.nil) #[_, _, _] #[_, _, _] W F1 F2 (fun b hb => Nat.lt_of_lt_of_le (HF1.out b hb) hW.size) (fun b hb => Nat.lt_of_lt_of_le (HF2.out b hb) hW.size) (Enc.mono _ hkid (fun _ h => h) (fun b hb => hW.block b (HF1.out b hb))) (Enc.mono _ hjid (fun _ h => h) (fun b hb => hW.block b (HF2.out b hb))))
        generalize (ks.getD k Tr.nil).prod = kp at *
        generalize (ks.getD k Tr.nil).tok = kt at *
        generalize (ks.getD k Tr.nil).kids.length = kl at *
        have HSTD := Lib.hid hst.drew
        clear hst hkid hjid x0 x1 y0 y1
        go_wp2
        refine wp_region_held_drew (S := (fun w' => w'.cell? ⟨w.heap.size, 2, none⟩ = some (.slice (some ⟨bk, ok, none⟩) ks.length ck) ∧ w'.cell? ⟨w.heap.size + 1, 2, none⟩ = some (.slice (some ⟨bj, oj, none⟩) ks.length cj) ∧ w'.cell? ⟨bk, ok + k * 3, none⟩ = some (.int .i64 kp) ∧ w'.cell? ⟨bk, ok + k * 3 + 1, none⟩ = some (.int .i64 kt) ∧ w'.cell? ⟨bk, ok + k * 3 + 2, none⟩ = some (.slice ka kl kc) ∧ w'.cell? ⟨bj, oj + k * 3, none⟩ = some (.int .i64 kp) ∧ w'.cell? ⟨bj, oj + k * 3 + 1, none⟩ = some (.int .i64 kt) ∧ w'.cell? ⟨bj, oj + k * 3 + 2, none⟩ = some (.slice ja kl jc))) (by kernel_rfl) ?_ (fun hHeld => ?_)
        · (try dsimp only); (first | exact ⟨x2, y2, d0, d1, d2, e0, e1, e2⟩ | go_keep)

        refine wpAnyH_take (i := 0) (v := ?_) rfl (by kernel_rfl) (by kernel_rfl) (by kernel_rfl) (fun _ _ _ h => h) (Or.inl ⟨by rfl, ?_⟩) (by assumption) ?_
        rotate_left; focus (intro w hSw; (try dsimp only at hSw); go_simp; try (with_reducible rfl); done)
        try simp only [List.getElem_toArray, List.getElem_cons_zero, List.getElem_cons_succ, Act.put, List.setIfInBounds_toArray, List.set_cons_zero, List.set_cons_succ]
        refine wpAnyH_take (i := 1) (v := ?_) rfl (by kernel_rfl) (by kernel_rfl) (by kernel_rfl) (fun _ _ _ h => h) (Or.inl ⟨by rfl, ?_⟩) (by assumption) ?_
        rotate_left; focus (intro w hSw; (try dsimp only at hSw); go_simp; try (with_reducible rfl); done)
        try simp only [List.getElem_toArray, List.getElem_cons_zero, List.getElem_cons_succ, Act.put, List.setIfInBounds_toArray, List.set_cons_zero, List.set_cons_succ]
        refine wpAnyH_take (i := 2) (v := ?_) rfl (by kernel_rfl) (by kernel_rfl) (by kernel_rfl) (fun _ _ _ h => h) (Or.inl ⟨by rfl, ?_⟩) (by assumption) ?_
        rotate_left; focus (intro w hSw; (try dsimp only at hSw); go_simp; try (with_reducible rfl); done)
        try simp only [List.getElem_toArray, List.getElem_cons_zero, List.getElem_cons_succ, Act.put, List.setIfInBounds_toArray, List.set_cons_zero, List.set_cons_succ]
        refine wpAnyH_take (i := 3) (v := ?_) rfl (by kernel_rfl) (by kernel_rfl) (by kernel_rfl) (fun _ _ _ h => h) (Or.inl ⟨by rfl, ?_⟩) (by assumption) ?_
        rotate_left; focus (intro w hSw; (try dsimp only at hSw); go_simp; try (with_reducible rfl); done)
        try simp only [List.getElem_toArray, List.getElem_cons_zero, List.getElem_cons_succ, Act.put, List.setIfInBounds_toArray, List.set_cons_zero, List.set_cons_succ]
        refine wpAnyH_take (i := 4) (v := ?_) rfl (by kernel_rfl) (by kernel_rfl) (by kernel_rfl) (fun _ _ _ h => h) (Or.inl ⟨by rfl, ?_⟩) (by assumption) ?_
        rotate_left; focus (intro w hSw; (try dsimp only at hSw); go_simp; try (with_reducible rfl); done)
        try simp only [List.getElem_toArray, List.getElem_cons_zero, List.getElem_cons_succ, Act.put, List.setIfInBounds_toArray, List.set_cons_zero, List.set_cons_succ]
        refine wpAnyH_take (i := 5) (v := ?_) rfl (by kernel_rfl) (by kernel_rfl) (by kernel_rfl) (fun _ _ _ h => h) (Or.inl ⟨by rfl, ?_⟩) (by assumption) ?_
        rotate_left; focus (intro w hSw; (try dsimp only at hSw); go_simp; try (with_reducible rfl); done)
        try simp only [List.getElem_toArray, List.getElem_cons_zero, List.getElem_cons_succ, Act.put, List.setIfInBounds_toArray, List.set_cons_zero, List.set_cons_succ]
        refine wpAnyH_take (i := 6) (v := ?_) rfl (by kernel_rfl) (by kernel_rfl) (by kernel_rfl) (fun _ _ _ h => h) (Or.inl ⟨by rfl, ?_⟩) (by assumption) ?_
        rotate_left; focus (intro w hSw; (try dsimp only at hSw); go_simp; try (with_reducible rfl); done)
        try simp only [List.getElem_toArray, List.getElem_cons_zero, List.getElem_cons_succ, Act.put, List.setIfInBounds_toArray, List.set_cons_zero, List.set_cons_succ]
        refine wpAnyH_take (i := 7) (v := ?_) rfl (by kernel_rfl) (by kernel_rfl) (by kernel_rfl) (fun _ _ _ h => h) (Or.inl ⟨by rfl, ?_⟩) (by assumption) ?_
        rotate_left; focus (intro w hSw; (try dsimp only at hSw); go_simp; try (with_reducible rfl); done)
        try simp only [List.getElem_toArray, List.getElem_cons_zero, List.getElem_cons_succ, Act.put, List.setIfInBounds_toArray, List.set_cons_zero, List.set_cons_succ]
        refine wpAnyH_take (i := 8) (v := ?_) rfl (by kernel_rfl) (by kernel_rfl) (by kernel_rfl) (fun _ _ _ h => h) (Or.inl ⟨by rfl, ?_⟩) (by assumption) ?_
        rotate_left; focus (intro w hSw; (try dsimp only at hSw); go_simp; try (with_reducible rfl); done)
        try simp only [List.getElem_toArray, List.getElem_cons_zero, List.getElem_cons_succ, Act.put, List.setIfInBounds_toArray, List.set_cons_zero, List.set_cons_succ]
        refine wpAnyH_take (i := 9) (v := ?_) rfl (by kernel_rfl) (by kernel_rfl) (by kernel_rfl) (fun _ _ _ h => h) (Or.inl ⟨by rfl, ?_⟩) (by assumption) ?_
        rotate_left; focus (intro w hSw; (try dsimp only at hSw); go_simp; try (with_reducible rfl); done)
        try simp only [List.getElem_toArray, List.getElem_cons_zero, List.getElem_cons_succ, Act.put, List.setIfInBounds_toArray, List.set_cons_zero, List.set_cons_succ]
        refine wpAnyH_ready (rs := [10]) (by kernel_rfl) (by simp) ?_
        refine AllReadyH.cons rfl (fun K hK => ?_) AllReadyH.nil
        go_simp
        (go_at_call 52; refine (HC.out _ HSTD.out.bel).mono ?_; rintro e w8 ⟨rfl, hb8⟩; have hst8 := HSTD.out.call hb8; have HST8 := Lib.hid hst8; obtain ⟨-, -, x2⟩ := hst8.at3 1 rfl; obtain ⟨-, -, y2⟩ := hst8.at3 0 rfl; have d0 := bkeep hst8.bel D0.out; have d1 := bkeep hst8.bel D1.out; have d2 := bkeep hst8.bel D2.out; have e0 := bkeep hst8.bel E0.out; have e1 := bkeep hst8.bel E1.out; have e2 := bkeep hst8.bel E2.out; clear hst8 hb8)
        refine hK.out _ _ ?_ (fun hHeld => ?_)
        · (try dsimp only); (first | exact ⟨x2, y2, d0, d1, d2, e0, e1, e2⟩ | go_keep)
        clear hK K
        try simp only [List.getElem_toArray, List.getElem_cons_zero, List.getElem_cons_succ, Act.put, List.setIfInBounds_toArray, List.set_cons_zero, List.set_cons_succ]
        refine wpAnyH_take (i := 11) (v := ?_) rfl (by kernel_rfl) (by kernel_rfl) (by kernel_rfl) (fun _ _ _ h => h) (Or.inl ⟨by rfl, ?_⟩) (by assumption) ?_
        rotate_left; focus (intro w hSw; (try dsimp only at hSw); go_simp; try (with_reducible rfl); done)
        try simp only [List.getElem_toArray, List.getElem_cons_zero, List.getElem_cons_succ, Act.put, List.setIfInBounds_toArray, List.set_cons_zero, List.set_cons_succ]
        refine wpAnyH_done (by kernel_rfl) ?_ _
        clear d0 d1 d2 e0 e1 e2 x2 y2 HC D0 D1 D2 E0 E1 E2
        go_wp2
        go_roundg (ks.length - (k + 1))
        case measure => have := HGK.out; omega
        case rel => exact ⟨k + 1, by omega, rfl, by go_num, HST8.out⟩
      · obtain rfl : k = ks.length := by omega
        clear hst
        go_wp2
        go_ret
        exact ⟨rfl, HST.out.bel⟩
theorem sameTree_ok {t : Tr} {c1 c2 : Array Value} {w : World} {F1 F2 : Nat → Prop} (hF1 : ∀ b, F1 b → b < w.heap.size) (hF2 : ∀ b, F2 b → b < w.heap.size) (h1 : Tr.any.R F1 w c1.toList t) (h2 : Tr.any.R F2 w c2.toList t) :
    Calls Try.prog 52 #[.agg c1, .agg c2] w fun e w' => e = .returned (.bool true) ∧ Below w.heap.size w w' := by
  obtain ⟨n, h1⟩ := h1
  obtain ⟨m, h2⟩ := h2
  exact sameTree_any (n + m) t c1 c2 w F1 F2 hF1 hF2 (Tr.enc_le h1 (by omega)) (Tr.enc_le h2 (by omega))

set_option maxRecDepth 100000 in
set_option maxHeartbeats 1600000 in
theorem trStart_any (tg ng : Int) (vp : Value) (l : List (Int × List (Int × Int))) (al : Option Addr) (N cl : Nat) (w : World) (F : Nat → Prop) (hF : ∀ b, F b → b < w.heap.size) (hp : Enc.prods.R F w [vp] l) :
    Calls Try.prog 114 #[.agg #[.int .i64 tg, .int .i64 ng, vp], .slice al N cl] w fun e w' => e = .returned (.int .i64 (if Gr.err tg ng l = 0 then (if 2000 < N then 2 else 0) else Gr.err tg ng l)) ∧ Below w.heap.size w w' := by
  have hp2 := hp
  obtain ⟨ap, bp, op, cp, rfl, -, -, -⟩ := slProds hp2
  have hst := (St.init w).alloc #[.int .i64 tg, .int .i64 ng, .slice ap l.length cp] 68
  have HC := Lib.hid (cfgCheck_any tg ng _ l _ F (fun b hb => Nat.lt_of_lt_of_le (hF b hb) hst.bel.size) (Enc.mono _ hp (fun _ h => h) (fun b hb => hst.bel.block b (hF b hb))))
  have HST := Lib.hid hst
  obtain ⟨g0, g1, g2⟩ := hst.at3 0 rfl
  generalize Gr.err tg ng l = E at *
  clear hst hp hp2 hF
  by_cases he : E = 0
  · subst he
    by_cases hN : 2000 < N
    · have hN' : (2000 : Int) < N := by omega
      rw [if_pos rfl, if_pos hN]
      go_enter Try.func114, Try.ntmps114
      go_wp2_with (fail)
      go_at_call 102
      refine HC.out.mono ?_
      rintro e w1 ⟨rfl, hb1⟩
      have HST1 := Lib.hid (HST.out.call hb1)
      go_wp2
      go_ret
      exact ⟨rfl, HST1.out.bel⟩
    · have hN' : ¬ (2000 : Int) < N := by omega
      rw [if_pos rfl, if_neg hN]
      go_enter Try.func114, Try.ntmps114
      go_wp2_with (fail)
      go_at_call 102
      refine HC.out.mono ?_
      rintro e w1 ⟨rfl, hb1⟩
      have HST1 := Lib.hid (HST.out.call hb1)
      go_wp2
      go_ret
      exact ⟨rfl, HST1.out.bel⟩
  · have hne : (E != 0) = true := by simpa using he
    rw [if_neg he]
    go_enter Try.func114, Try.ntmps114
    go_wp2_with (fail)
    go_at_call 102
    refine HC.out.mono ?_
    rintro e w1 ⟨rfl, hb1⟩
    have HST1 := Lib.hid (HST.out.call hb1)
    go_wp2
    go_ret
    exact ⟨rfl, HST1.out.bel⟩

set_option maxRecDepth 100000 in
set_option maxHeartbeats 1600000 in
theorem inOrder_any (vl : Value) (E : List Tr.Ev) (w : World) (F : Nat → Prop) (h : (Enc.two.sl 16).R F w [vl] E) (hE : E.length ≤ 2000) :
    Calls Try.prog 117 #[vl] w fun e w' => e = .returned (.bool (Tr.ord E 0)) ∧ Below w.heap.size w w' := by
  obtain ⟨al, bl, ol, cl, rfl, -, l3, l4⟩ := slTwo h
  have L3 := Lib.hid l3; have L4 := Lib.hid l4
  obtain ⟨R, hR⟩ : ∃ R, Tr.ord E 0 = R := ⟨_, rfl⟩
  rw [hR]
  have HR := Lib.hid hR
  have hEE : (E.length : Int) ≤ 2000 := by omega
  clear l3 l4 h hR
  go_enter Try.func117, Try.ntmps117
  go_wp2
  go_loopg [3, 4] E.length (fun gk v i wr => ∃ k c : Nat, k ≤ E.length ∧ c ≤ k ∧ gk = E.length - k ∧ v = .int .i64 c ∧ i = .int .i64 k ∧ Hid (Tr.ord (E.drop k) c = R) ∧ Below w.heap.size w wr)
  case atStart => exact ⟨0, 0, by omega, by omega, by omega, rfl, rfl, Lib.hid HR.out, Below.refl _ _⟩
  case round =>
    clear HR
    obtain ⟨k, c, hk, hck, hgk, rfl, rfl, HR, hb⟩ := hrel
    have HGK := Lib.hid hgk
    clear hgk
    by_cases hlt : k < E.length
    · obtain ⟨rfl, -, -⟩ := L3.out (by omega)
      obtain ⟨c1, c2, -, -⟩ := L4.out k hlt
      have c1 := bkeep hb c1; have c2 := bkeep hb c2
      have hr := HR.out
      rw [Gr.drop_at E (0, 0) k hlt, Tr.ord] at hr
      have hlt2 : (k : Int) < E.length := by omega
      generalize E.getD k (0, 0) = x at *
      obtain ⟨x1, x2⟩ := x
      simp only at c1 c2 hr
      by_cases h1 : x1 = 2
      · subst h1
        rw [if_pos rfl] at hr
        by_cases h2 : x2 = c
        · have HN : Hid (Tr.ord (E.drop (k + 1)) (c + 1) = R) := Lib.hid (by rw [← hr, decide_eq_true h2]; rfl)
          have h2' : (x2 != (c : Int)) = false := by rw [bne_eq_false_iff_eq]; exact h2
          clear hr h2
          go_wp2
          go_roundg (E.length - (k + 1))
          case measure => have := HGK.out; omega
          case rel => exact ⟨k + 1, c + 1, by omega, by omega, rfl, by go_num, by go_num, HN, hb⟩
        · have HN : Hid (false = R) := Lib.hid (by rw [← hr, decide_eq_false h2]; rfl)
          have h2' : (x2 != (c : Int)) = true := by simpa using h2
          clear hr h2
          go_wp2
          go_ret
          exact ⟨by rw [← HN.out]; rfl, hb⟩
      · rw [if_neg h1] at hr
        have HN := Lib.hid hr
        have h1' : (x1 == 2) = false := by rw [beq_eq_false_iff_ne]; exact h1
        clear hr h1
        go_wp2
        go_roundg (E.length - (k + 1))
        case measure => have := HGK.out; omega
        case rel => exact ⟨k + 1, c, by omega, by omega, rfl, rfl, by go_num, HN, hb⟩
    · have HN : Hid (true = R) := Lib.hid (by have := HR.out; rw [List.drop_eq_nil_of_le (by omega), Tr.ord] at this; exact this)
      have hlt2 : ¬ (k : Int) < E.length := by omega
      go_wp2
      go_ret
      exact ⟨by rw [← HN.out]; rfl, hb⟩

/-- The results, the first of them a tree in a box. -/
theorem Tr.resT {fn : Func} {p u : Tmp} (h : fn.results = #[.cell p 71, .tmp u]) (tmps : Array Value) (w : World) (g : Nat) {v0 v1 v2 : Value} (hp : tmps.getD p undef = .pointer (some ⟨g, 0, none⟩)) (c0 : w.cell? ⟨g, 0, none⟩ = some v0) (c1 : w.cell? ⟨g, 1, none⟩ = some v1) (c2 : w.cell? ⟨g, 2, none⟩ = some v2) :
    (results fn tmps).run Try.prog w = .ok (.tuple #[.agg #[v0, v1, v2], tmps.getD u undef]) w := by
  rw [results_cell_tmp h, hp]
  simp [go_sem, c0, c1, c2]

set_option maxRecDepth 100000 in
set_option maxHeartbeats 1600000 in
theorem trTold_no (tg ng : Int) (ap : Option Addr) (np cp : Nat) (a b : Int) (ao : Option Addr) (n c : Nat) (w : World) :
    Calls Try.prog 116 #[.agg #[.int .i64 tg, .int .i64 ng, .slice ap np cp], .agg #[.int .i64 a, .int .i64 b, .slice ao n c], .bool false] w fun e w' => e = .returned (.tuple #[.agg #[.int .i64 0, .int .i64 0, .slice none 0 0], .int .i64 4]) ∧ Below w.heap.size w w' := by
  have hst := (((St.init w).alloc #[.int .i64 tg, .int .i64 ng, .slice ap np cp] 68).alloc #[.int .i64 a, .int .i64 b, .slice ao n c] 71).alloc #[.int .i64 0, .int .i64 0, .slice none 0 0] 71
  simp only [World.size_alloc] at hst
  have HST := Lib.hid hst
  clear hst
  go_enter Try.func116, Try.ntmps116
  go_wp2
  obtain ⟨r0, r1, r2⟩ := HST.out.at3 0 rfl
  refine bodyPost_ret (Tr.resT rfl _ _ _ rfl r0 r1 r2) rfl ?_
  exact ⟨rfl, HST.out.bel⟩

set_option maxRecDepth 100000 in
set_option maxHeartbeats 1600000 in
theorem trTold_yes (tg ng : Int) (vp : Value) (l : List (Int × List (Int × Int))) (F : Nat → Prop) (n : Nat) (t : Tr) (vk : Value) (w : World) (hF : ∀ b, F b → b < w.heap.size) (hp : Enc.prods.R F w [vp] l) (ht : (Tr.enc n).R F w [.int .i64 t.prod, .int .i64 t.tok, vk] t) :
    Calls Try.prog 116 #[.agg #[.int .i64 tg, .int .i64 ng, vp], .agg #[.int .i64 t.prod, .int .i64 t.tok, vk], .bool true] w fun e w' => Below w.heap.size w w' ∧ (Tr.err tg ng l n t = 0 → e = .returned (.tuple #[.agg #[.int .i64 t.prod, .int .i64 t.tok, vk], .int .i64 0])) ∧ (Tr.err tg ng l n t ≠ 0 → e = .returned (.tuple #[.agg #[.int .i64 0, .int .i64 0, .slice none 0 0], .int .i64 (Tr.err tg ng l n t)])) := by
  obtain ⟨m, hm, vk', hcs, -, -, hk⟩ := Tr.opened ht
  simp only [List.cons.injEq, and_true, true_and] at hcs
  subst hcs
  obtain ⟨ak, bk, ok, ck, rfl, -, -, -⟩ := Tr.kidsAt hk
  have hp2 := hp
  obtain ⟨ap, bp, op, cp, rfl, -, -, -⟩ := slProds hp2
  have hst := (((St.init w).alloc #[.int .i64 tg, .int .i64 ng, .slice ap l.length cp] 68).alloc #[.int .i64 t.prod, .int .i64 t.tok, .slice ak t.kids.length ck] 71).alloc #[.int .i64 0, .int .i64 0, .slice none 0 0] 71
  simp only [World.size_alloc] at hst
  have hF2 : ∀ b, F b → b < _ := fun b hb => Nat.lt_of_lt_of_le (hF b hb) hst.bel.size
  have HC := Lib.hid (trCheck_any tg ng _ l F n t #[.int .i64 t.prod, .int .i64 t.tok, .slice ak t.kids.length ck] _ hF2 (Enc.mono _ hp (fun _ h => h) (fun b hb => hst.bel.block b (hF b hb))) (Enc.mono _ ht (fun _ h => h) (fun b hb => hst.bel.block b (hF b hb))))
  have HST := Lib.hid hst
  obtain ⟨g0, g1, g2⟩ := hst.at3 2 rfl
  obtain ⟨z0, z1, z2⟩ := hst.at3 1 rfl
  clear hst hF2 hp hp2 ht hk hm hF
  generalize Tr.err tg ng l n t = E at *
  generalize t.prod = pr at *
  generalize t.tok = tk at *
  generalize t.kids.length = kl at *
  by_cases he : E = 0
  · subst he
    go_enter Try.func116, Try.ntmps116
    go_wp2_with (fail)
    go_at_call 38
    refine HC.out.mono ?_
    rintro e w1 ⟨rfl, hb1⟩
    have hst1 := HST.out.call hb1
    have HST1 := Lib.hid (hst1.setCel 0 (.int .i64 pr) |>.setCel 1 (.int .i64 tk) |>.setCel 2 (.slice ak kl ck))
    obtain ⟨g0, g1, g2⟩ := hst1.at3 2 rfl
    obtain ⟨z0, z1, z2⟩ := hst1.at3 1 rfl
    obtain ⟨y0, y1, y2, y3, y4, y5⟩ := hst1.cel3
    clear hst1 hb1 HC HST
    go_wp2
    obtain ⟨r0, r1, r2⟩ := HST1.out.at3 0 rfl
    refine bodyPost_ret (Tr.resT rfl _ _ _ rfl r0 r1 r2) rfl ?_
    exact ⟨HST1.out.bel, fun _ => rfl, fun h => absurd rfl h⟩
  · have hne : (E != 0) = true := by simpa using he
    have HE := Lib.hid he
    clear he
    go_enter Try.func116, Try.ntmps116
    go_wp2_with (fail)
    go_at_call 38
    refine HC.out.mono ?_
    rintro e w1 ⟨rfl, hb1⟩
    have hst1 := HST.out.call hb1
    have HST1 := Lib.hid (hst1.setCel 0 (.int .i64 0) |>.setCel 1 (.int .i64 0) |>.setCel 2 (.slice none 0 0))
    obtain ⟨y0, y1, y2, y3, y4, y5⟩ := hst1.cel3
    clear hst1 hb1 HC HST
    go_wp2
    obtain ⟨r0, r1, r2⟩ := HST1.out.at3 0 rfl
    refine bodyPost_ret (Tr.resT rfl _ _ _ rfl r0 r1 r2) rfl ?_
    exact ⟨HST1.out.bel, fun h => absurd h HE.out, fun _ => rfl⟩
end Go.Proofs.Ytldapomcjfkeeaa
