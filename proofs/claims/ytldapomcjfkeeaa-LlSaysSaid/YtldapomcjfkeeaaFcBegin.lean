/-
  Begin of package facts.
-/
import Derived.Test.YtldapomcjfkeeaaFcOf
namespace Go.Proofs.Ytldapomcjfkeeaa
set_option linter.unusedVariables false
set_option linter.unusedSimpArgs false
open Go.ChangeShapes Go.WideShapes Go.ChangeAt Go.RowKit

def RetFb (l : List Fc.Pr) (N : Nat) (behind : Nat) (body : List (Int × Int)) (R : Bool) (w : World) (e : Ending) (w' : World) : Prop :=
  (R = true → ∃ E Fs W Rc M, e = .returned (.tuple #[.int .u64 ((Fc.beg E Fs behind body : Nat) : Int), .int .i64 0]) ∧ Fc.Good l N E Fs W Rc M) ∧ (R = false → e = .returned (.tuple #[.int .u64 0, .int .i64 1])) ∧ Below w.heap.size w w'

set_option maxRecDepth 100000 in
set_option maxHeartbeats 1600000 in
theorem fcBeg_bad (t n : Int) (vp vb : Value) (l : List Fc.Pr) (behind : Int) (w : World) (F : Nat → Prop) (hF : ∀ b, F b → b < w.heap.size) (h : Enc.prods.R F w [vp] l) (he : Gr.err t n l ≠ 0) :
    Calls Try.prog 43 #[.agg #[.int .i64 t, .int .i64 n, vp], vb, .int .u64 behind] w fun e w' => e = .returned (.tuple #[.int .u64 0, .int .i64 (Gr.err t n l)]) ∧ Below w.heap.size w w' := by
  have HC := Lib.hid (fun (w' : World) (hb : Below w.heap.size w w') => fcOf_bad t n vp l w' F (fun b hb' => Nat.lt_of_lt_of_le (hF b hb') hb.size) (Enc.prods.mono h (fun _ h => h) (fun b hb' => hb.block b (hF b hb'))) he)
  have hne : ((Gr.err t n l : Int) != 0) = true := by rw [bne_iff_ne]; exact he
  obtain ⟨E, hE⟩ : ∃ E, Gr.err t n l = E := ⟨_, rfl⟩
  rw [hE] at HC hne ⊢
  clear h hF he hE
  go_enter Try.func43, Try.ntmps43
  go_wp2_with (fail)
  go_at_call 42
  refine (HC.out _ ((Below.refl _ _).alloc (Nat.le_refl _) _)).mono ?_
  rintro e w1 ⟨rfl, hb1⟩
  have hst := ((St.init w).alloc #[.int .i64 t, .int .i64 n, vp] 68).call hb1
  have HST := Lib.hid hst
  clear hst hb1 HC
  go_wp2
  go_ret2
  exact ⟨rfl, (HST.out.skip _).bel⟩

set_option maxRecDepth 100000 in
set_option maxHeartbeats 1600000 in
theorem fcBeg_ok (t n : Int) (vp vb : Value) (l : List Fc.Pr) (behind : Nat) (body : List (Int × Int)) (w : World) (F : Nat → Prop) (hF : ∀ b, F b → b < w.heap.size) (h : Enc.prods.R F w [vp] l) (hb : (Enc.two.sl 16).R F w [vb] body) (he : Gr.err t n l = 0) (hbh : behind < 2 ^ 64) (R : Bool) (hR : (decide (body.length ≤ 60) && body.all (Gr.right t n)) = R) :
    Calls Try.prog 43 #[.agg #[.int .i64 t, .int .i64 n, vp], vb, .int .u64 (behind : Int)] w (RetFb l n.toNat behind body R w) := by
  have HC := Lib.hid (fun (w' : World) (hb : Below w.heap.size w w') => fcOf_ok t n vp l w' F (fun b hb' => Nat.lt_of_lt_of_le (hF b hb') hb.size) (Enc.prods.mono h (fun _ h => h) (fun b hb' => hb.block b (hF b hb'))) he)
  obtain ⟨z1, z2, z3, z4, -, -⟩ := Gr.err_zero he
  obtain ⟨N, rfl⟩ := Int.eq_ofNat_of_zero_le (show 0 ≤ n by omega)
  rw [Int.toNat_natCast] at HC ⊢
  have HB := Lib.hid hb
  obtain ⟨ab, bb, ob, cb, rfl, hl, b3, b4⟩ := slTwo hb
  have B3 := Lib.hid b3; have B4 := Lib.hid b4; have HF := Lib.hid hF; have HBH := Lib.hid hbh; have HR := Lib.hid hR; have HZ := Lib.hid z2
  have hll : (body.length : Int) ≤ 140737488355328 := by omega
  clear h hF he hb b3 b4 hl hbh hR
  go_enter Try.func43, Try.ntmps43
  go_wp2_with (fail)
  go_at_call 42
  refine (HC.out _ ((Below.refl _ _).alloc (Nat.le_refl _) _)).mono ?_
  rintro e w1 ⟨gE, gF, gW, gR, gM, E, Fs, W, Rc, M, rfl, HG, hst1⟩
  have hst := ((St.init w).alloc #[.int .i64 t, .int .i64 N, vp] 68).join hst1
  have HST := Lib.hid hst
  clear hst hst1 HC
  by_cases h60 : body.length ≤ 60
  · have h60i : (body.length : Int) ≤ 60 := by omega
    have hr0 := HR.out
    rw [decide_eq_true h60, Bool.true_and] at hr0
    clear HR
    have HR : Hid ((body.drop 0).all (Gr.right t N) = R) := Lib.hid hr0
    clear hr0 h60
    have hst := HST.out.alloc #[.slice (some ⟨gE, 0, none⟩) N N, .slice (some ⟨gF, 0, none⟩) N N, .slice (some ⟨gW, 0, none⟩) N N, .slice (some ⟨gR, 0, none⟩) N N, .slice (some ⟨gM, 0, none⟩) N N] 88
    have HST := Lib.hid hst
    clear hst
    go_wp2
    go_loopg [25] body.length (fun gk i wr => ∃ k : Nat, k ≤ body.length ∧ gk = body.length - k ∧ i = .int .i64 k ∧ Hid (∀ x ∈ body.take k, Gr.right t N x = true) ∧ Hid ((body.drop k).all (Gr.right t N) = R) ∧ St w wr [aCel w1.heap.size 88 #[.slice (some ⟨gE, 0, none⟩) N N, .slice (some ⟨gF, 0, none⟩) N N, .slice (some ⟨gW, 0, none⟩) N N, .slice (some ⟨gR, 0, none⟩) N N, .slice (some ⟨gM, 0, none⟩) N N], Fc.aB (.slice (some ⟨gE, 0, none⟩) N N) E, Fc.aU (.slice (some ⟨gF, 0, none⟩) N N) Fs, Fc.aU (.slice (some ⟨gW, 0, none⟩) N N) W, Fc.aB (.slice (some ⟨gR, 0, none⟩) N N) Rc, Fc.aB (.slice (some ⟨gM, 0, none⟩) N N) M, aCel w.heap.size 68 #[.int .i64 t, .int .i64 N, vp]])
    case atStart => exact ⟨0, by omega, by omega, rfl, Lib.hid (by simp), HR, HST.out⟩
    case round =>
      clear HST HR
      obtain ⟨k, hk, hgk, rfl, HA, HR, hst⟩ := hrel
      have HGK := Lib.hid hgk
      clear hgk
      by_cases hlt : k < body.length
      · obtain ⟨rfl, _, _⟩ := B3.out (by omega)
        obtain ⟨s1, s2, -, -⟩ := B4.out k hlt
        have hd := Fc.drop_at hlt (0, 0)
        have htk : body.take (k + 1) = body.take k ++ [body.getD k (0, 0)] := by rw [List.take_succ_eq_append_getElem hlt]; simp [List.getD, List.getElem?_eq_getElem hlt]
        have hr := HR.out
        rw [hd, List.all_cons] at hr
        generalize body.getD k (0, 0) = x at *
        obtain ⟨x1, x2⟩ := x
        simp only at s1 s2
        have c1 := bkeep hst.bel s1
        have c2 := bkeep hst.bel s2
        have hlt2 : (k : Int) < body.length := by omega
        have lb := World.block_lt_of_cell? _ _ c1
        obtain ⟨p0, p1, p2⟩ := hst.at3 6 rfl
        have lg := World.block_lt_of_cell? _ _ p0
        have HST := Lib.hid (hst.skip (.cells #[.int .i64 x1, .int .i64 x2] 96))
        have HA2 : Gr.right t N (x1, x2) = true → Hid (∀ x ∈ body.take (k + 1), Gr.right t N x = true) := fun hx => Lib.hid (fun x hxm => by
          rw [htk, List.mem_append, List.mem_singleton] at hxm
          rcases hxm with h | rfl
          · exact HA.out x h
          · exact hx)
        have HTK := Lib.hid HA2
        clear s1 s2 hd hst HR htk HA2
        cases hg : Gr.right t N (x1, x2)
        · rw [hg, Bool.false_and] at hr
          subst hr
          have HG2 := Lib.hid hg
          have hx : ¬ ((x1 = 1 ∧ 0 ≤ x2 ∧ x2 < t) ∨ (x1 = 2 ∧ 0 ≤ x2 ∧ x2 < N)) := fun e => by
            have := Gr.right_iff (t := t) (n := N) (x := (x1, x2)) |>.2 e
            rw [hg] at this; cases this
          clear hg
          by_cases k1 : x1 = 1
          · subst k1
            by_cases k3 : x2 < 0
            · clear hx
              go_wp2
              go_ret2
              exact ⟨(fun h => by cases h), fun _ => rfl, HST.out.bel⟩
            · have k4 : t ≤ x2 := by omega
              clear hx
              go_wp2
              go_ret2
              exact ⟨(fun h => by cases h), fun _ => rfl, HST.out.bel⟩
          · by_cases k2 : x1 = 2
            · subst k2
              by_cases k3 : x2 < 0
              · clear hx
                go_wp2
                go_ret2
                exact ⟨(fun h => by cases h), fun _ => rfl, HST.out.bel⟩
              · have k4 : (N : Int) ≤ x2 := by omega
                clear hx
                go_wp2
                go_ret2
                exact ⟨(fun h => by cases h), fun _ => rfl, HST.out.bel⟩
            · have b1 : ((x1 : Int) == 1) = false := by rw [beq_eq_false_iff_ne]; exact k1
              have b2 : ((x1 : Int) == 2) = false := by rw [beq_eq_false_iff_ne]; exact k2
              have b3 : ((x1 : Int) != 1) = true := by rw [bne_iff_ne]; exact k1
              have b4 : ((x1 : Int) != 2) = true := by rw [bne_iff_ne]; exact k2
              clear hx k1 k2
              go_wp2
              go_ret2
              exact ⟨(fun h => by cases h), fun _ => rfl, HST.out.bel⟩
        · rw [hg, Bool.true_and] at hr
          have HR := Lib.hid hr
          have HA3 := HTK.out hg
          rcases Gr.right_iff.1 hg with ⟨k1, k2, k3⟩ | ⟨k1, k2, k3⟩
          all_goals
            simp only at k1 k2 k3
            subst k1
            clear hg hr
            go_wp2
            go_roundg (body.length - (k + 1))
            case measure => have := HGK.out; omega
            case rel => exact ⟨k + 1, by omega, rfl, by go_num, HA3, HR, HST.out⟩
      · obtain rfl : k = body.length := by omega
        have hr := HR.out
        rw [List.drop_length] at hr
        have hr2 : true = R := hr
        subst hr2
        obtain ⟨x0, x1, x2, x3, x4⟩ := hst.at5 0 rfl
        have HA2 := HA.out
        rw [List.take_length] at HA2
        have HA3 := Lib.hid HA2
        have HST := Lib.hid (hst.pick [1, 2, 0, 3, 4, 5, 6] 7 rfl rfl)
        clear hst HR hr HA HA2
        go_wp2_with (fail)
        go_at_call 106
        refine (fcBegin_any w _ gE N N gF N N E Fs _ _ _ _ behind body _ F (by rw [HG.out.e]) (by rw [HG.out.f]) (by rw [HG.out.e, HG.out.f]) HG.out.fb HBH.out HB.out (fun x hx => by
          have := HA3.out x hx
          rw [HG.out.e]
          rcases Gr.right_iff.1 this with ⟨a, b, c⟩ | ⟨a, b, c⟩
          · exact .inl ⟨a, b, by have := HZ.out; omega⟩
          · exact .inr ⟨a, b, c⟩) (hst := HST.out)).mono ?_
        rintro e w8 ⟨rfl, hst8⟩
        have HST := Lib.hid hst8
        clear hst8
        go_wp2
        go_ret2
        exact ⟨fun _ => ⟨E, Fs, W, Rc, M, rfl, HG.out⟩, (fun h => by cases h), HST.out.bel⟩
  · have h60i : (60 : Int) < body.length := by omega
    have hr := HR.out
    rw [decide_eq_false h60, Bool.false_and] at hr
    subst hr
    clear HR h60
    go_wp2
    go_ret2
    exact ⟨(fun h => by cases h), fun _ => rfl, (HST.out.skip _).bel⟩
end Go.Proofs.Ytldapomcjfkeeaa
