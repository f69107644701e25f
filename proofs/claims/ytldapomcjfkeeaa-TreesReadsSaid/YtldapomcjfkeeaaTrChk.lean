/-
  Check of package trees, Tree of the reference.
-/
import Derived.Test.YtldapomcjfkeeaaTrLook
namespace Go.Proofs.Ytldapomcjfkeeaa
set_option linter.unusedVariables false
set_option linter.unusedSimpArgs false
open Go.ChangeShapes Go.WideShapes Go.ChangeAt Go.RowKit

namespace Tr
def err (tg ng : Int) (l : List (Int × List (Int × Int))) (n : Nat) (t : Tr) : Int := if Gr.err tg ng l = 0 then (look l n t (2, 0) 1 (0, 0)).1 else Gr.err tg ng l
theorem in0 : In (0, 0) := ⟨by decide, by decide, by decide, by decide⟩
end Tr

set_option maxRecDepth 100000 in
set_option maxHeartbeats 8000000 in
theorem trCheck_any (tg ng : Int) (vp : Value) (l : List (Int × List (Int × Int))) (F : Nat → Prop) (n : Nat) (t : Tr) (cs : Array Value) (w : World) (hF : ∀ b, F b → b < w.heap.size) (hp : Enc.prods.R F w [vp] l) (ht : (Tr.enc n).R F w cs.toList t) :
    Calls Try.prog 38 #[.agg #[.int .i64 tg, .int .i64 ng, vp], .agg cs] w fun e w' => e = .returned (.int .i64 (Tr.err tg ng l n t)) ∧ Below w.heap.size w w' := by
  obtain ⟨m, hm, vk, hcs, ⟨hp0, hp1⟩, ⟨hk0, hk1⟩, hk⟩ := Tr.opened ht
  obtain rfl : cs = #[.int .i64 t.prod, .int .i64 t.tok, vk] := Array.toList_inj.1 hcs
  obtain ⟨ak, bk, ok, ck, rfl, -, -, -⟩ := Tr.kidsAt hk
  have hp2 := hp
  obtain ⟨ap, bp, op, cp, rfl, -, -, -⟩ := slProds hp2
  have hst := ((St.init w).alloc #[.int .i64 tg, .int .i64 ng, .slice ap l.length cp] 68).alloc #[.int .i64 t.prod, .int .i64 t.tok, .slice ak t.kids.length ck] 71
  simp only [World.size_alloc] at hst
  have hst0 := hst
  have HC := Lib.hid (cfgCheck_any tg ng _ l _ F (fun b hb => Nat.lt_of_lt_of_le (hF b hb) hst.bel.size) (Enc.mono _ hp (fun _ h => h) (fun b hb => hst.bel.block b (hF b hb))))
  have HP := Lib.hid hp; have HT := Lib.hid ht
  have HST := Lib.hid hst
  obtain ⟨g0, g1, g2⟩ := hst.at3 1 rfl
  by_cases he : Gr.err tg ng l = 0
  · have hE : Tr.err tg ng l n t = (Tr.look l n t (2, 0) 1 (0, 0)).1 := by rw [Tr.err, if_pos he]
    have HE := Lib.hid hE
    have HZ := Lib.hid (Gr.err_zero he)
    have HE0 := Lib.hid he
    clear hst hst0 hp hp2 ht hk hcs hm he hE
    go_enter Try.func38, Try.ntmps38
    go_wp2_with (fail)
    go_at_call 102
    refine HC.out.mono ?_
    rintro e w1 ⟨rfl, hb1⟩
    have hst1 := HST.out.call hb1
    rw [HE0.out]
    clear HC hb1 g0 g1 g2
    obtain ⟨g0, g1, g2⟩ := hst1.at3 1 rfl
    have hst2 := hst1.alloc #[.int .i64 tg, .int .i64 ng, .slice ap l.length cp, .int .i64 0, .int .i64 0] 194
    obtain ⟨z0, z1, z2⟩ := hst2.at3 1 rfl
    have HN := Lib.hid (trNode_any w w1.heap.size tg ng _ l F HP.out HZ.out.2.2.2.2.1 (fun p hp => (HZ.out.2.2.2.2.2 p hp).1) n t _ (2, 0) 1 (0, 0) _ _ HT.out Tr.in0 (by decide) (by decide) hst2)
    clear hst1 hst2 HST HZ HE0
    go_wp2_with (fail)
    go_at_call 103
    refine HN.out.mono ?_
    rintro e w2 ⟨rfl, hst3⟩
    have HST3 := Lib.hid hst3
    clear hst3 HN g0 g1 g2 z0 z1 z2
    go_wp2
    go_ret
    exact ⟨(congrArg (fun x => Ending.returned (Value.int .i64 x)) HE.out).symm, HST3.out.bel⟩
  · have hE : Tr.err tg ng l n t = Gr.err tg ng l := by rw [Tr.err, if_neg he]
    have hne : (Gr.err tg ng l != 0) = true := by simpa using he
    rw [hE]
    clear hst hst0 hp hp2 ht hk hcs hm hE
    generalize Gr.err tg ng l = E at *
    go_enter Try.func38, Try.ntmps38
    go_wp2_with (fail)
    go_at_call 102
    refine HC.out.mono ?_
    rintro e w1 ⟨rfl, hb1⟩
    have hst1 := HST.out.call hb1
    go_wp2
    go_ret
    exact ⟨rfl, hst1.bel⟩

set_option maxRecDepth 100000 in
set_option maxHeartbeats 8000000 in
theorem rTree_any (tg ng : Int) (vp : Value) (l : List (Int × List (Int × Int))) (F : Nat → Prop) (n : Nat) (t : Tr) (cs : Array Value) (w : World) (hp : Enc.prods.R F w [vp] l) (ht : (Tr.enc n).R F w cs.toList t) (he : Gr.err tg ng l = 0) :
    Calls Try.prog 34 #[.agg #[.int .i64 tg, .int .i64 ng, vp], .agg cs] w fun e w' => e = .returned (.int .i64 (Tr.look l n t (2, 0) 1 (0, 0)).1) ∧ Below w.heap.size w w' := by
  have hcf := fun args W => Tr.callC (c := 92) Try.func92 (by kernel_rfl) (by kernel_rfl) args W
  obtain ⟨m, hm, vk, hcs, ⟨hp0, hp1⟩, ⟨hk0, hk1⟩, hk⟩ := Tr.opened ht
  obtain rfl : cs = #[.int .i64 t.prod, .int .i64 t.tok, vk] := Array.toList_inj.1 hcs
  obtain ⟨ak, bk, ok, ck, rfl, -, -, -⟩ := Tr.kidsAt hk
  have hp2 := hp
  obtain ⟨ap, bp, op, cp, rfl, -, -, -⟩ := slProds hp2
  have hst := ((St.init w).alloc #[.int .i64 tg, .int .i64 ng, .slice ap l.length cp] 68).alloc #[.int .i64 t.prod, .int .i64 t.tok, .slice ak t.kids.length ck] 71
  have HZ := Lib.hid (Gr.err_zero he)
  have HP := Lib.hid hp; have HT := Lib.hid ht
  have hst2 := ((hst.alloc #[.int .i64 0] 3).alloc #[.int .i64 0] 3).alloc #[Tr.fnV (w.heap.size + 1 + 1) (w.heap.size + 1 + 1 + 1) (w.heap.size + 1 + 1 + 1 + 1) w.heap.size] 187
  simp only [World.size_alloc] at hst2
  have HN := Lib.hid (trLook_any w (w.heap.size + 1 + 1) (w.heap.size + 1 + 1 + 1) (w.heap.size + 1 + 1 + 1 + 1) w.heap.size 187 tg ng _ l F hp HZ.out.2.2.2.2.1 (fun p hp => (HZ.out.2.2.2.2.2 p hp).1) n t _ (2, 0) 1 (0, 0) [] _ ht Tr.in0 (by decide) (by decide) (hst2.pick [2, 1, 0, 4] 5 rfl rfl))
  clear hst hst2 hp hp2 ht hk hcs hm he
  go_enter Try.func34, Try.ntmps34
  go_wp2_with (fail)
  go_at_call 92
  refine HN.out.mono ?_
  rintro e w2 ⟨rfl, hst3⟩
  have HST3 := Lib.hid hst3
  clear hst3 HN
  go_wp2
  go_ret
  exact ⟨rfl, HST3.out.bel⟩
end Go.Proofs.Ytldapomcjfkeeaa
