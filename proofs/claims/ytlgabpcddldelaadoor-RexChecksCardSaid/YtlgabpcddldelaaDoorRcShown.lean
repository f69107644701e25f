/-
  shown of package rex: a regular expression as text.
-/
import Derived.Test.YtlgabpcddldelaaDoorRcs
import Derived.Test.YtlgabpcddldelaaDoorRcCls
import Derived.Test.YtlgabpcddldelaaDoorRcChk
namespace Go.Proofs.YtlgabpcddldelaaDoor
set_option linter.unusedVariables false
set_option linter.unusedSimpArgs false
open Go.ChangeShapes Go.WideShapes Go.ChangeAt Go.RowKit

/-- A slice's literal at a step of a drawn region. -/
theorem St.stepBuild {P : Program} {w0 w : World} {μ : List Asrt} {ops : Array Oper} {o : Oper} {a : Act} {K : Act → World → Prop} {Q : Exit → Act → World → Prop} {EE : Prop} {T ty : TypeId} {n : Nat} {els : Array (Nat × Operand)} {cs : Array Value} (hgd : o.guard = none) (ha : o.op = Op.buildSlice ty n els) (hr : ∀ u : World, (execOp a.eval o).run P u = .ok (.value (.slice (some ⟨u.heap.size, 0, none⟩) n n)) (u.alloc (.cells cs T)))
    (h : St w0 w μ) (hK : ∀ g w', St w0 w' (aCel g T cs :: μ) → K (a.put o.dst (.slice (some ⟨g, 0, none⟩) n n)) w') : if Region.wanted o (yielded ops a.tmps) = true then Oper.wp P o a w K Q else EE := by
  have hw : Region.wanted o (yielded ops a.tmps) = true := by simp [Region.wanted, hgd]
  rw [if_pos hw]
  unfold Oper.wp
  rw [hr w]
  exact hK _ _ (h.alloc cs T)

namespace Rcs
/-- What the shown text of a tree (in brackets, if its kind is one of ks) is. -/
def Shows (w0 : World) (F : Nat → Prop) (n : Nat) : Prop := ∀ (t : Rx) (cs : Array Value) (ks : List Int) (ao : Option Addr) (b off cap : Nat) (W : World), (Rx.enc n).R F w0 cs.toList t → Rx.good n t → Rx.cnt n t ≤ 100 → Below w0.heap.size w0 W → ks.length ≤ 3 →
  (0 < ks.length → ao = some ⟨b, off, none⟩) → (∀ i, i < ks.length → W.cell? ⟨b, off + i, none⟩ = some (.int .i64 (ks.getD i 0))) →
  Calls Tryd.prog 53 #[.agg cs, .slice ao ks.length cap] W fun e w' => e = .returned (.string (brk ks t.kind (sh n t))) ∧ Below W.heap.size W w'
def Shows0 (w0 : World) (F : Nat → Prop) (n : Nat) : Prop := ∀ (t : Rx) (cs : Array Value) (W : World), (Rx.enc n).R F w0 cs.toList t → Rx.good n t → Rx.cnt n t ≤ 100 → Below w0.heap.size w0 W →
  Calls Tryd.prog 53 #[.agg cs, .slice none 0 0] W fun e w' => e = .returned (.string (sh n t)) ∧ Below W.heap.size W w'
theorem cels {w0 w : World} {μ : List Asrt} {g : Nat} {T : TypeId} {ks : List Int} (h : St w0 w μ) (i : Nat) (hA : μ[i]? = some (aCel g T (ks.map (Value.int .i64)).toArray)) : ∀ j, j < ks.length → w.cell? ⟨g, 0 + j, none⟩ = some (.int .i64 (ks.getD j 0)) := by
  intro j hj
  rw [Nat.zero_add]
  refine (h.nth i hA).celAt ?_
  rw [List.getElem?_toArray, List.getElem?_map, List.getElem?_eq_getElem hj]
  simp [List.getD, List.getElem?_eq_getElem hj]
end Rcs

set_option maxRecDepth 100000 in
set_option maxHeartbeats 8000000 in
theorem rxShown_step (w0 : World) (hT : Tz.Tab w0) (F : Nat → Prop) (n : Nat) (ih : Rcs.Shows w0 F n) (t : Rx) (cs : Array Value) (ks : List Int) (ao : Option Addr) (b off cap : Nat) (W : World) (h0 : 0 < ks.length → Rcs.Shows0 w0 F (n + 1)) (ht : (Rx.enc (n + 1)).R F w0 cs.toList t) (hg : Rx.good (n + 1) t) (hc : Rx.cnt (n + 1) t ≤ 100) (hB : Below w0.heap.size w0 W) (hl : ks.length ≤ 3)
    (hao : 0 < ks.length → ao = some ⟨b, off, none⟩) (hcell : ∀ i, i < ks.length → W.cell? ⟨b, off + i, none⟩ = some (.int .i64 (ks.getD i 0))) :
    Calls Tryd.prog 53 #[.agg cs, .slice ao ks.length cap] W fun e w' => e = .returned (.string (Rcs.brk ks t.kind (Rcs.sh (n + 1) t))) ∧ Below W.heap.size W w' := by
  obtain ⟨n', hn, vk, hcs, -, hok, hk⟩ := Rx.opened ht
  obtain rfl : n = n' := by omega
  obtain ⟨a0, a1, a2, a3, hws⟩ := Cs.okFour hok
  have hcs2 : cs = #[.int .i64 t.kind, .int .u64 a0, .int .u64 a1, .int .u64 a2, .int .u64 a3, vk] := by
    apply Array.toList_inj.1
    rw [hcs, Rx.cel, hws]; rfl
  subst hcs2
  obtain ⟨ak, bk, ok, ck, rfl, -, k3, k4⟩ := Rx.kidsAt hk
  have HST := Lib.hid ((St.init W).alloc #[.int .i64 t.kind, .int .u64 a0, .int .u64 a1, .int .u64 a2, .int .u64 a3, .slice ak t.kids.length ck] 42)
  obtain ⟨T, hT2⟩ : ∃ T, Rcs.sh (n + 1) t = T := ⟨_, rfl⟩
  have hsz := Rcs.sh_size hg
  have H0 := Lib.hid (fun (h : 0 < ks.length) W hW => h0 h t _ W ht hg hc hW)
  rw [hT2] at hsz H0 ⊢
  rw [Rcs.sh] at hT2
  have hkn := Rx.good_kind hg
  have hgk := fun i (hi : i < t.kids.length) => Rcs.good_kid (i := i) hg hi
  have hc1 := fun h => Rcs.kids1 (f := n) (t := t) h
  have hc2 := fun h => Rcs.kids2 (f := n) (t := t) h
  have HCL := Lib.hid (fun W' (h : Below w0.heap.size w0 W') => rxCls_any (Rx.ws t) hok W' (fun j hj => bkeep h (hT j hj)))
  rw [hws] at HCL hT2
  rw [show Cs.clV [a0, a1, a2, a3] = .agg #[.int .u64 a0, .int .u64 a1, .int .u64 a2, .int .u64 a3] from rfl] at HCL
  generalize Rx.cnt (n + 1) t = cn at *
  have hts : T.size ≤ 240000 := by omega
  have HKN := Lib.hid (show (((t.kind = 1 ∨ t.kind = 2) ∧ t.kids.length = 0) ∨ (t.kind = 3 ∧ t.kids.length = 0) ∨ (t.kind = 6 ∧ t.kids.length = 1) ∨ ((t.kind = 4 ∨ t.kind = 5) ∧ t.kids.length = 2)) by
    rcases hkn with ⟨h1, h2, _⟩ | ⟨h1, h2, _⟩ | ⟨h1, h2, _⟩ | ⟨h1, h2, _⟩
    · exact .inl ⟨h1, by rw [h2]; rfl⟩
    · exact .inr (.inl ⟨h1, by rw [h2]; rfl⟩)
    · exact .inr (.inr (.inl ⟨h1, h2⟩))
    · exact .inr (.inr (.inr ⟨h1, h2⟩)))
  have K3 := Lib.hid k3; have K4 := Lib.hid k4; have HG := Lib.hid hgk; have IH := Lib.hid ih; have HBW := Lib.hid hB; have HC1 := Lib.hid hc1; have HC2 := Lib.hid hc2; have HT2 := Lib.hid hT2; have HAO := Lib.hid hao; have HCE := Lib.hid hcell
  have HBR : ∀ kd, Hid (Rcs.brk ks kd T = if ks.contains kd = true then ⟨#[40]⟩ ++ T ++ ⟨#[41]⟩ else T) := fun kd => Lib.hid rfl
  replace HBR := HBR t.kind
  obtain ⟨X, hX⟩ : ∃ X, Rcs.brk ks t.kind T = X := ⟨_, rfl⟩
  rw [hX] at HBR ⊢
  clear hX ih h0 ht hg hB hao hcell hok hk hws hkn hgk hc1 hc2 hT2 hcs hn k3 k4 hT hsz
  generalize t.kind = kd at *
  generalize t.kids = kl at *
  go_enter Tryd.func53, Tryd.ntmps53
  go_wp2_with (fail)
  go_loopg [9] ks.length (fun gz v9 wr => ∃ j : Nat, j ≤ ks.length ∧ gz = ks.length - j ∧ v9 = .int .i64 j ∧ Hid (∀ i, i < j → ks.getD i 0 ≠ kd) ∧ St W wr [aCel W.heap.size 42 #[.int .i64 kd, .int .u64 a0, .int .u64 a1, .int .u64 a2, .int .u64 a3, .slice ak kl.length ck]])
  case atStart => exact ⟨0, by omega, by omega, rfl, Lib.hid fun i hi => by omega, HST.out⟩
  case round =>
    clear HST
    obtain ⟨j, hj, hgz, rfl, HNO, hst⟩ := hrel
    have HGZ := Lib.hid hgz
    clear hgz
    obtain ⟨y0, y1, y2, y3, y4, y5⟩ := Rx.cel6 hst 0 rfl
    by_cases hlt : j < ks.length
    · have hltI : (j : Int) < ks.length := by omega
      obtain rfl := HAO.out (by omega)
      have hc := bkeep hst.bel (HCE.out j hlt)
      have HH0 := Lib.hid (fun W' h => H0.out (by omega) W' h)
      have HST := Lib.hid hst
      clear hst
      obtain ⟨kj, hkj⟩ : ∃ x, ks.getD j 0 = x := ⟨_, rfl⟩
      rw [hkj] at hc
      have HKJ := Lib.hid hkj
      clear hkj
      by_cases he : kd = kj
      · subst he
        have HX := Lib.hid (show X = ⟨#[40]⟩ ++ T ++ ⟨#[41]⟩ by
          rw [HBR.out, if_pos]
          rw [List.contains_iff_mem, ← HKJ.out, List.getD_eq_getElem?_getD, List.getElem?_eq_getElem hlt]
          exact List.getElem_mem hlt)
        have hadd1 : ∀ W, (Op.stringOp .add ⟨#[40]⟩ T).run Tryd.prog W = .ok (.string (⟨#[40]⟩ ++ T)) W := fun W => run_string_add_sum W _ _ (by show 1 + _ ≤ _; omega)
        have hadd2 : ∀ W, (Op.stringOp .add (⟨#[40]⟩ ++ T) ⟨#[41]⟩).run Tryd.prog W = .ok (.string (⟨#[40]⟩ ++ T ++ ⟨#[41]⟩)) W := fun W => run_string_add_sum W _ _ (by rw [ByteArray.size_append]; show 1 + _ + 1 ≤ _; omega)
        go_wp2_with (fail)
        go_at_call 53
        refine (HH0.out _ (HBW.out.trans (HST.out.bel.mono HBW.out.size))).mono ?_
        rintro e w1 ⟨rfl, hb1⟩
        have HST := Lib.hid (HST.out.call hb1)
        clear hb1
        go_wp2
        go_ret
        exact ⟨by rw [HX.out]; rfl, HST.out.bel⟩
      · have hne : (kd == kj) = false := by rw [beq_eq_false_iff_ne]; exact he
        have HNE := Lib.hid he
        clear he
        go_wp2
        go_roundg (ks.length - (j + 1))
        case measure => have := HGZ.out; omega
        case rel => exact ⟨j + 1, by omega, rfl, by go_num, Lib.hid fun i hi h => (by by_cases e : i = j; exact HNE.out (by rw [← HKJ.out, ← e, h]); exact HNO.out i (by omega) h), HST.out⟩
    · have hge : ¬ ((j : Int) < ks.length) := by omega
      have HX := Lib.hid (show X = T by
        rw [HBR.out, if_neg]
        rw [List.contains_iff_mem]
        intro hm
        obtain ⟨i, hi, e⟩ := List.getElem_of_mem hm
        exact HNO.out i (by omega) (by rw [List.getD_eq_getElem?_getD, List.getElem?_eq_getElem hi]; exact e))
      have HST := Lib.hid hst
      clear hst HBR H0 HAO HCE HNO
      have hT2 := HT2.out
      clear HT2
      rcases HKN.out with ⟨hkd, hkl⟩ | ⟨hkd, hkl⟩ | ⟨hkd, hkl⟩ | ⟨hkd, hkl⟩
      · clear HKN
        rcases hkd with hkd | hkd
        · subst hkd
          rw [if_neg (by decide), if_pos rfl] at hT2
          subst hT2
          go_wp2
          go_ret
          exact ⟨by rw [HX.out]; rfl, HST.out.bel⟩
        · subst hkd
          rw [if_pos rfl] at hT2
          subst hT2
          go_wp2
          go_ret
          exact ⟨by rw [HX.out]; rfl, HST.out.bel⟩
      · clear HKN
        subst hkd
        rw [if_neg (by decide), if_neg (by decide), if_pos rfl] at hT2
        subst hT2
        go_wp2_with (fail)
        go_at_call 76
        refine (HCL.out _ (HBW.out.trans (HST.out.bel.mono HBW.out.size))).mono ?_
        rintro e w1 ⟨rfl, hb1⟩
        have HST := Lib.hid (HST.out.call hb1)
        clear hb1
        go_wp2
        go_ret
        exact ⟨by rw [HX.out]; rfl, HST.out.bel⟩
      · clear HKN
        subst hkd
        rw [if_neg (by decide), if_neg (by decide), if_neg (by decide), if_pos rfl] at hT2
        obtain ⟨rfl, -, -⟩ := K3.out (by omega)
        have hkN : 0 < kl.length := by omega
        have hkI : (0 : Int) < kl.length := by omega
        obtain ⟨b00, b01, b02, b03, ax0, cx0, -, e00, e01, e02, e03, e04, e05, hen0⟩ := K4.out 0 (by omega)
        have HK0 := Lib.hid (fun (ks' : List Int) (ao' : Option Addr) (b' off' cap' : Nat) (W' : World) (hW : Below w0.heap.size w0 W') (hl' : ks'.length ≤ 3) (hao' : 0 < ks'.length → ao' = some ⟨b', off', none⟩) (hce' : ∀ i, i < ks'.length → W'.cell? ⟨b', off' + i, none⟩ = some (.int .i64 (ks'.getD i 0))) => IH.out (kl.getD 0 Rx.nil) #[.int .i64 (kl.getD 0 Rx.nil).kind, .int .u64 b00, .int .u64 b01, .int .u64 b02, .int .u64 b03, .slice ax0 (kl.getD 0 Rx.nil).kids.length cx0] ks' ao' b' off' cap' W' hen0 (HG.out 0 (by omega)) (by have := HC1.out hkl; omega) hW hl' hao' hce')
        have hs0 := Rcs.sh_size (HG.out 0 (by omega))
        have hcn0 : Rx.cnt n (kl.getD 0 Rx.nil) ≤ 100 := by have := HC1.out hkl; omega
        have hBB0 := HBW.out.trans (HST.out.bel.mono HBW.out.size)
        simp only [Nat.zero_mul, Nat.one_mul, Nat.add_zero] at e00 e01 e02 e03 e04 e05
        have d00 := bkeep hBB0 e00; have d01 := bkeep hBB0 e01; have d02 := bkeep hBB0 e02; have d03 := bkeep hBB0 e03; have d04 := bkeep hBB0 e04; have d05 := bkeep hBB0 e05
        generalize Rcs.sh n (kl.getD 0 Rx.nil) = X0 at *
        generalize Rx.cnt n (kl.getD 0 Rx.nil) = cn0 at *
        clear e00 e01 e02 e03 e04 e05 hen0 hBB0
        generalize (kl.getD 0 Rx.nil).kind = kd0 at *
        generalize (kl.getD 0 Rx.nil).kids.length = nx0 at *
        have hv := Rcs.brk_size [4, 5, 6] kd0 X0
        have HTT := Lib.hid hT2
        clear hT2
        obtain ⟨V0, hV0⟩ : ∃ V, Rcs.brk [4, 5, 6] kd0 X0 = V := ⟨_, rfl⟩
        rw [hV0] at hv HTT
        have HV0 := Lib.hid hV0
        clear hV0
        have hadd1 : ∀ W, (Op.stringOp .add V0 ⟨#[42]⟩).run Tryd.prog W = .ok (.string (V0 ++ ⟨#[42]⟩)) W := fun W => run_string_add_sum W _ _ (by show _ + 1 ≤ _; omega)
        have HST2 := Lib.hid (HST.out.alloc #[.int .i64 4, .int .i64 5, .int .i64 6] 3)
        have HC := Lib.hid (HK0.out [4, 5, 6] (some ⟨wr.heap.size, 0, none⟩) wr.heap.size 0 3 _ (HBW.out.trans (HST2.out.bel.mono HBW.out.size)) (by decide) (fun _ => rfl) (Rcs.cels (ks := [4, 5, 6]) HST2.out 0 rfl))
        rw [HV0.out] at HC
        go_wp2_with (fail)
        go_at_call 53
        refine (HC.out).mono ?_
        rintro e w1 ⟨rfl, hb1⟩
        have HST := Lib.hid (HST2.out.call hb1)
        clear hb1
        go_wp2
        go_ret
        exact ⟨by rw [HX.out, ← HTT.out]; rfl, HST.out.bel⟩
      · clear HKN
        obtain ⟨rfl, -, -⟩ := K3.out (by omega)
        have hkN : 0 < kl.length := by omega
        have hkI : (0 : Int) < kl.length := by omega
        have hkN1 : 1 < kl.length := by omega
        have hkI1 : (1 : Int) < kl.length := by omega
        obtain ⟨b00, b01, b02, b03, ax0, cx0, -, e00, e01, e02, e03, e04, e05, hen0⟩ := K4.out 0 (by omega)
        have HK0 := Lib.hid (fun (ks' : List Int) (ao' : Option Addr) (b' off' cap' : Nat) (W' : World) (hW : Below w0.heap.size w0 W') (hl' : ks'.length ≤ 3) (hao' : 0 < ks'.length → ao' = some ⟨b', off', none⟩) (hce' : ∀ i, i < ks'.length → W'.cell? ⟨b', off' + i, none⟩ = some (.int .i64 (ks'.getD i 0))) => IH.out (kl.getD 0 Rx.nil) #[.int .i64 (kl.getD 0 Rx.nil).kind, .int .u64 b00, .int .u64 b01, .int .u64 b02, .int .u64 b03, .slice ax0 (kl.getD 0 Rx.nil).kids.length cx0] ks' ao' b' off' cap' W' hen0 (HG.out 0 (by omega)) (by have := HC2.out hkl; omega) hW hl' hao' hce')
        have hs0 := Rcs.sh_size (HG.out 0 (by omega))
        have hcn0 : Rx.cnt n (kl.getD 0 Rx.nil) ≤ 100 := by have := HC2.out hkl; omega
        have hBB0 := HBW.out.trans (HST.out.bel.mono HBW.out.size)
        simp only [Nat.zero_mul, Nat.one_mul, Nat.add_zero] at e00 e01 e02 e03 e04 e05
        have d00 := bkeep hBB0 e00; have d01 := bkeep hBB0 e01; have d02 := bkeep hBB0 e02; have d03 := bkeep hBB0 e03; have d04 := bkeep hBB0 e04; have d05 := bkeep hBB0 e05
        generalize Rcs.sh n (kl.getD 0 Rx.nil) = X0 at *
        generalize Rx.cnt n (kl.getD 0 Rx.nil) = cn0 at *
        clear e00 e01 e02 e03 e04 e05 hen0 hBB0
        obtain ⟨b10, b11, b12, b13, ax1, cx1, -, e10, e11, e12, e13, e14, e15, hen1⟩ := K4.out 1 (by omega)
        have HK1 := Lib.hid (fun (ks' : List Int) (ao' : Option Addr) (b' off' cap' : Nat) (W' : World) (hW : Below w0.heap.size w0 W') (hl' : ks'.length ≤ 3) (hao' : 0 < ks'.length → ao' = some ⟨b', off', none⟩) (hce' : ∀ i, i < ks'.length → W'.cell? ⟨b', off' + i, none⟩ = some (.int .i64 (ks'.getD i 0))) => IH.out (kl.getD 1 Rx.nil) #[.int .i64 (kl.getD 1 Rx.nil).kind, .int .u64 b10, .int .u64 b11, .int .u64 b12, .int .u64 b13, .slice ax1 (kl.getD 1 Rx.nil).kids.length cx1] ks' ao' b' off' cap' W' hen1 (HG.out 1 (by omega)) (by have := HC2.out hkl; omega) hW hl' hao' hce')
        have hs1 := Rcs.sh_size (HG.out 1 (by omega))
        have hcn1 : Rx.cnt n (kl.getD 1 Rx.nil) ≤ 100 := by have := HC2.out hkl; omega
        have hBB1 := HBW.out.trans (HST.out.bel.mono HBW.out.size)
        simp only [Nat.zero_mul, Nat.one_mul, Nat.add_zero] at e10 e11 e12 e13 e14 e15
        have d10 := bkeep hBB1 e10; have d11 := bkeep hBB1 e11; have d12 := bkeep hBB1 e12; have d13 := bkeep hBB1 e13; have d14 := bkeep hBB1 e14; have d15 := bkeep hBB1 e15
        generalize Rcs.sh n (kl.getD 1 Rx.nil) = X1 at *
        generalize Rx.cnt n (kl.getD 1 Rx.nil) = cn1 at *
        clear e10 e11 e12 e13 e14 e15 hen1 hBB1
        generalize (kl.getD 0 Rx.nil).kind = kd0 at *
        generalize (kl.getD 0 Rx.nil).kids.length = nx0 at *
        generalize (kl.getD 1 Rx.nil).kind = kd1 at *
        generalize (kl.getD 1 Rx.nil).kids.length = nx1 at *
        have HN := Lib.hid (St.init wr.drew)
        have HSTO := Lib.hid HST.out
        have HST := Lib.hid HST.out.drew
        rcases hkd with hkd | hkd
        · subst hkd
          rw [if_neg (by decide), if_neg (by decide), if_neg (by decide), if_neg (by decide), if_pos rfl] at hT2
          have hv0 := Rcs.brk_size [5] kd0 X0
          have hv1 := Rcs.brk_size [5, 4] kd1 X1
          have HTT := Lib.hid hT2
          clear hT2
          obtain ⟨V0, hV0⟩ : ∃ V, Rcs.brk [5] kd0 X0 = V := ⟨_, rfl⟩
          obtain ⟨V1, hV1⟩ : ∃ V, Rcs.brk [5, 4] kd1 X1 = V := ⟨_, rfl⟩
          rw [hV0] at hv0 HTT
          rw [hV1] at hv1 HTT
          have HV0 := Lib.hid hV0
          have HV1 := Lib.hid hV1
          clear hV0 hV1
          have hadd1 : ∀ W, (Op.stringOp .add V0 V1).run Tryd.prog W = .ok (.string (V0 ++ V1)) W := fun W => run_string_add_sum W _ _ (by omega)
          go_wp2_with (fail)
          refine wp_region_held_drew (S := (fun w' => w'.cell? ⟨W.heap.size, 5, none⟩ = some (.slice (some ⟨bk, ok, none⟩) kl.length ck) ∧ w'.cell? ⟨bk, ok, none⟩ = some (.int .i64 kd0) ∧ w'.cell? ⟨bk, ok + 1, none⟩ = some (.int .u64 b00) ∧ w'.cell? ⟨bk, ok + 2, none⟩ = some (.int .u64 b01) ∧ w'.cell? ⟨bk, ok + 3, none⟩ = some (.int .u64 b02) ∧ w'.cell? ⟨bk, ok + 4, none⟩ = some (.int .u64 b03) ∧ w'.cell? ⟨bk, ok + 5, none⟩ = some (.slice ax0 nx0 cx0) ∧ w'.cell? ⟨bk, ok + 6, none⟩ = some (.int .i64 kd1) ∧ w'.cell? ⟨bk, ok + 6 + 1, none⟩ = some (.int .u64 b10) ∧ w'.cell? ⟨bk, ok + 6 + 2, none⟩ = some (.int .u64 b11) ∧ w'.cell? ⟨bk, ok + 6 + 3, none⟩ = some (.int .u64 b12) ∧ w'.cell? ⟨bk, ok + 6 + 4, none⟩ = some (.int .u64 b13) ∧ w'.cell? ⟨bk, ok + 6 + 5, none⟩ = some (.slice ax1 nx1 cx1))) (by kernel_rfl) ?_ (fun hHeld => ?_)
          · (try dsimp only); (exact ⟨bkeep HN.out.bel y5, bkeep HN.out.bel d00, bkeep HN.out.bel d01, bkeep HN.out.bel d02, bkeep HN.out.bel d03, bkeep HN.out.bel d04, bkeep HN.out.bel d05, bkeep HN.out.bel d10, bkeep HN.out.bel d11, bkeep HN.out.bel d12, bkeep HN.out.bel d13, bkeep HN.out.bel d14, bkeep HN.out.bel d15⟩)

          refine wpAnyH_take (i := 0) (v := ?_) rfl (by kernel_rfl) (by kernel_rfl) (by kernel_rfl) (fun _ _ _ h => h) (Or.inl ⟨by rfl, ?_⟩) (by assumption) ?_
          rotate_left; focus (intro w hSw; (try dsimp only at hSw); go_simp; try (with_reducible rfl); done)
          try simp only [List.getElem_toArray, List.getElem_cons_zero, List.getElem_cons_succ, Act.put, List.setIfInBounds_toArray, List.set_cons_zero, List.set_cons_succ]
          refine wpAnyH_take (i := 1) (v := ?_) rfl (by kernel_rfl) (by kernel_rfl) (by kernel_rfl) (fun _ _ _ h => h) (Or.inl ⟨by rfl, ?_⟩) (by assumption) ?_
          rotate_left; focus (intro w hSw; (try dsimp only at hSw); go_simp; try (with_reducible rfl); done)
          try simp only [List.getElem_toArray, List.getElem_cons_zero, List.getElem_cons_succ, Act.put, List.setIfInBounds_toArray, List.set_cons_zero, List.set_cons_succ]
          refine wpAnyH_take (i := 2) (v := ?_) rfl (by kernel_rfl) (by kernel_rfl) (by kernel_rfl) (fun _ _ _ h => h) (Or.inl ⟨by rfl, ?_⟩) (by assumption) ?_
          rotate_left; focus (intro w hSw; (try dsimp only at hSw); go_simp; try (with_reducible rfl); done)
          try simp only [List.getElem_toArray, List.getElem_cons_zero, List.getElem_cons_succ, Act.put, List.setIfInBounds_toArray, List.set_cons_zero, List.set_cons_succ]
          refine wpAnyH_take (i := 3) (v := ?_) rfl (by kernel_rfl) (by kernel_rfl) (by kernel_rfl) (fun _ _ _ h => h) (Or.inl ⟨by rfl, ?_⟩) (by assumption) ?_
          rotate_left; focus (intro w hSw; (try dsimp only at hSw); go_simp; try (with_reducible rfl); done)
          try simp only [List.getElem_toArray, List.getElem_cons_zero, List.getElem_cons_succ, Act.put, List.setIfInBounds_toArray, List.set_cons_zero, List.set_cons_succ]
          refine wpAnyH_take (i := 6) (v := ?_) rfl (by kernel_rfl) (by kernel_rfl) (by kernel_rfl) (fun _ _ _ h => h) (Or.inl ⟨by rfl, ?_⟩) (by assumption) ?_
          rotate_left; focus (intro w hSw; (try dsimp only at hSw); go_simp; try (with_reducible rfl); done)
          try simp only [List.getElem_toArray, List.getElem_cons_zero, List.getElem_cons_succ, Act.put, List.setIfInBounds_toArray, List.set_cons_zero, List.set_cons_succ]
          refine wpAnyH_take (i := 7) (v := ?_) rfl (by kernel_rfl) (by kernel_rfl) (by kernel_rfl) (fun _ _ _ h => h) (Or.inl ⟨by rfl, ?_⟩) (by assumption) ?_
          rotate_left; focus (intro w hSw; (try dsimp only at hSw); go_simp; try (with_reducible rfl); done)
          try simp only [List.getElem_toArray, List.getElem_cons_zero, List.getElem_cons_succ, Act.put, List.setIfInBounds_toArray, List.set_cons_zero, List.set_cons_succ]
          refine wpAnyH_take (i := 8) (v := ?_) rfl (by kernel_rfl) (by kernel_rfl) (by kernel_rfl) (fun _ _ _ h => h) (Or.inl ⟨by rfl, ?_⟩) (by assumption) ?_
          rotate_left; focus (intro w hSw; (try dsimp only at hSw); go_simp; try (with_reducible rfl); done)
          try simp only [List.getElem_toArray, List.getElem_cons_zero, List.getElem_cons_succ, Act.put, List.setIfInBounds_toArray, List.set_cons_zero, List.set_cons_succ]
          refine wpAnyH_take (i := 9) (v := ?_) rfl (by kernel_rfl) (by kernel_rfl) (by kernel_rfl) (fun _ _ _ h => h) (Or.inl ⟨by rfl, ?_⟩) (by assumption) ?_
          rotate_left; focus (intro w hSw; (try dsimp only at hSw); go_simp; try (with_reducible rfl); done)
          try simp only [List.getElem_toArray, List.getElem_cons_zero, List.getElem_cons_succ, Act.put, List.setIfInBounds_toArray, List.set_cons_zero, List.set_cons_succ]
          refine wpAnyH_ready (rs := [4, 10]) (by kernel_rfl) (by simp) ?_
          refine AllReadyH.cons rfl (fun K hK => ?_) (AllReadyH.cons rfl (fun K hK => ?_) (AllReadyH.nil))
          · skip
            (refine St.stepBuild (n := 1) (T := 3) (cs := #[.int .i64 5]) rfl rfl (by intro u; kernel_rfl) HN.out ?_; intro gA w8 hst8; have HN := Lib.hid hst8; clear hst8)
            refine hK.out _ _ ?_ (fun hHeld => ?_)
            · (try dsimp only); (exact ⟨bkeep HN.out.bel y5, bkeep HN.out.bel d00, bkeep HN.out.bel d01, bkeep HN.out.bel d02, bkeep HN.out.bel d03, bkeep HN.out.bel d04, bkeep HN.out.bel d05, bkeep HN.out.bel d10, bkeep HN.out.bel d11, bkeep HN.out.bel d12, bkeep HN.out.bel d13, bkeep HN.out.bel d14, bkeep HN.out.bel d15⟩)
            clear hK K
            try simp only [List.getElem_toArray, List.getElem_cons_zero, List.getElem_cons_succ, Act.put, List.setIfInBounds_toArray, List.set_cons_zero, List.set_cons_succ]
            refine wpAnyH_ready (rs := [5, 10]) (by kernel_rfl) (by simp) ?_
            refine AllReadyH.cons rfl (fun K hK => ?_) (AllReadyH.cons rfl (fun K hK => ?_) (AllReadyH.nil))
            · skip
              go_simp
              (go_at_call 53; refine (HK0.out [5] (some ⟨gA, 0, none⟩) gA 0 1 _ (HBW.out.trans ((HST.out.bel.trans (HN.out.bel.mono HST.out.bel.size)).mono HBW.out.size)) (by decide) (fun _ => rfl) (by first | exact Rcs.cels (ks := [5]) HN.out 0 rfl | exact Rcs.cels (ks := [5]) HN.out 1 rfl)).mono ?_; rw [HV0.out]; rintro e w8 ⟨rfl, hb8⟩; have HN := Lib.hid (HN.out.call hb8); clear hb8)
              refine hK.out _ _ ?_ (fun hHeld => ?_)
              · (try dsimp only); (exact ⟨bkeep HN.out.bel y5, bkeep HN.out.bel d00, bkeep HN.out.bel d01, bkeep HN.out.bel d02, bkeep HN.out.bel d03, bkeep HN.out.bel d04, bkeep HN.out.bel d05, bkeep HN.out.bel d10, bkeep HN.out.bel d11, bkeep HN.out.bel d12, bkeep HN.out.bel d13, bkeep HN.out.bel d14, bkeep HN.out.bel d15⟩)
              clear hK K
              try simp only [List.getElem_toArray, List.getElem_cons_zero, List.getElem_cons_succ, Act.put, List.setIfInBounds_toArray, List.set_cons_zero, List.set_cons_succ]
              refine wpAnyH_ready (rs := [10]) (by kernel_rfl) (by simp) ?_
              refine AllReadyH.cons rfl (fun K hK => ?_) (AllReadyH.nil)
              (refine St.stepBuild (n := 2) (T := 3) (cs := #[.int .i64 5, .int .i64 4]) rfl rfl (by intro u; kernel_rfl) HN.out ?_; intro gB w8 hst8; have HN := Lib.hid hst8; clear hst8)
              refine hK.out _ _ ?_ (fun hHeld => ?_)
              · (try dsimp only); (exact ⟨bkeep HN.out.bel y5, bkeep HN.out.bel d00, bkeep HN.out.bel d01, bkeep HN.out.bel d02, bkeep HN.out.bel d03, bkeep HN.out.bel d04, bkeep HN.out.bel d05, bkeep HN.out.bel d10, bkeep HN.out.bel d11, bkeep HN.out.bel d12, bkeep HN.out.bel d13, bkeep HN.out.bel d14, bkeep HN.out.bel d15⟩)
              clear hK K
              try simp only [List.getElem_toArray, List.getElem_cons_zero, List.getElem_cons_succ, Act.put, List.setIfInBounds_toArray, List.set_cons_zero, List.set_cons_succ]
              refine wpAnyH_ready (rs := [11]) (by kernel_rfl) (by simp) ?_
              refine AllReadyH.cons rfl (fun K hK => ?_) (AllReadyH.nil)
              go_simp
              (go_at_call 53; refine (HK1.out [5, 4] (some ⟨gB, 0, none⟩) gB 0 2 _ (HBW.out.trans ((HST.out.bel.trans (HN.out.bel.mono HST.out.bel.size)).mono HBW.out.size)) (by decide) (fun _ => rfl) (by first | exact Rcs.cels (ks := [5, 4]) HN.out 0 rfl | exact Rcs.cels (ks := [5, 4]) HN.out 1 rfl)).mono ?_; rw [HV1.out]; rintro e w8 ⟨rfl, hb8⟩; have HN := Lib.hid (HN.out.call hb8); clear hb8)
              refine hK.out _ _ ?_ (fun hHeld => ?_)
              · (try dsimp only); (exact ⟨bkeep HN.out.bel y5, bkeep HN.out.bel d00, bkeep HN.out.bel d01, bkeep HN.out.bel d02, bkeep HN.out.bel d03, bkeep HN.out.bel d04, bkeep HN.out.bel d05, bkeep HN.out.bel d10, bkeep HN.out.bel d11, bkeep HN.out.bel d12, bkeep HN.out.bel d13, bkeep HN.out.bel d14, bkeep HN.out.bel d15⟩)
              clear hK K
              try simp only [List.getElem_toArray, List.getElem_cons_zero, List.getElem_cons_succ, Act.put, List.setIfInBounds_toArray, List.set_cons_zero, List.set_cons_succ]
              refine wpAnyH_take (i := 12) (v := ?_) rfl (by kernel_rfl) (by kernel_rfl) (by kernel_rfl) (fun _ _ _ h => h) (Or.inl ⟨by rfl, ?_⟩) (by assumption) ?_
              rotate_left; focus (intro w hSw; (try dsimp only at hSw); go_simp; try (with_reducible rfl); done)
              try simp only [List.getElem_toArray, List.getElem_cons_zero, List.getElem_cons_succ, Act.put, List.setIfInBounds_toArray, List.set_cons_zero, List.set_cons_succ]
              refine wpAnyH_take (i := 13) (v := ?_) rfl (by kernel_rfl) (by kernel_rfl) (by kernel_rfl) (fun _ _ _ h => h) (Or.inl ⟨by rfl, ?_⟩) (by assumption) ?_
              rotate_left; focus (intro w hSw; (try dsimp only at hSw); go_simp; try (with_reducible rfl); done)
              try simp only [List.getElem_toArray, List.getElem_cons_zero, List.getElem_cons_succ, Act.put, List.setIfInBounds_toArray, List.set_cons_zero, List.set_cons_succ]
              refine wpAnyH_done (by kernel_rfl) ?_ _
              go_wp2
              go_ret
              exact ⟨by rw [HX.out, ← HTT.out]; rfl, (HST.out.call HN.out.bel).bel⟩
            · skip
              (refine St.stepBuild (n := 2) (T := 3) (cs := #[.int .i64 5, .int .i64 4]) rfl rfl (by intro u; kernel_rfl) HN.out ?_; intro gB w8 hst8; have HN := Lib.hid hst8; clear hst8)
              refine hK.out _ _ ?_ (fun hHeld => ?_)
              · (try dsimp only); (exact ⟨bkeep HN.out.bel y5, bkeep HN.out.bel d00, bkeep HN.out.bel d01, bkeep HN.out.bel d02, bkeep HN.out.bel d03, bkeep HN.out.bel d04, bkeep HN.out.bel d05, bkeep HN.out.bel d10, bkeep HN.out.bel d11, bkeep HN.out.bel d12, bkeep HN.out.bel d13, bkeep HN.out.bel d14, bkeep HN.out.bel d15⟩)
              clear hK K
              try simp only [List.getElem_toArray, List.getElem_cons_zero, List.getElem_cons_succ, Act.put, List.setIfInBounds_toArray, List.set_cons_zero, List.set_cons_succ]
              refine wpAnyH_ready (rs := [5]) (by kernel_rfl) (by simp) ?_
              refine AllReadyH.cons rfl (fun K hK => ?_) (AllReadyH.nil)
              go_simp
              (go_at_call 53; refine (HK0.out [5] (some ⟨gA, 0, none⟩) gA 0 1 _ (HBW.out.trans ((HST.out.bel.trans (HN.out.bel.mono HST.out.bel.size)).mono HBW.out.size)) (by decide) (fun _ => rfl) (by first | exact Rcs.cels (ks := [5]) HN.out 0 rfl | exact Rcs.cels (ks := [5]) HN.out 1 rfl)).mono ?_; rw [HV0.out]; rintro e w8 ⟨rfl, hb8⟩; have HN := Lib.hid (HN.out.call hb8); clear hb8)
              refine hK.out _ _ ?_ (fun hHeld => ?_)
              · (try dsimp only); (exact ⟨bkeep HN.out.bel y5, bkeep HN.out.bel d00, bkeep HN.out.bel d01, bkeep HN.out.bel d02, bkeep HN.out.bel d03, bkeep HN.out.bel d04, bkeep HN.out.bel d05, bkeep HN.out.bel d10, bkeep HN.out.bel d11, bkeep HN.out.bel d12, bkeep HN.out.bel d13, bkeep HN.out.bel d14, bkeep HN.out.bel d15⟩)
              clear hK K
              try simp only [List.getElem_toArray, List.getElem_cons_zero, List.getElem_cons_succ, Act.put, List.setIfInBounds_toArray, List.set_cons_zero, List.set_cons_succ]
              refine wpAnyH_ready (rs := [11]) (by kernel_rfl) (by simp) ?_
              refine AllReadyH.cons rfl (fun K hK => ?_) (AllReadyH.nil)
              go_simp
              (go_at_call 53; refine (HK1.out [5, 4] (some ⟨gB, 0, none⟩) gB 0 2 _ (HBW.out.trans ((HST.out.bel.trans (HN.out.bel.mono HST.out.bel.size)).mono HBW.out.size)) (by decide) (fun _ => rfl) (by first | exact Rcs.cels (ks := [5, 4]) HN.out 0 rfl | exact Rcs.cels (ks := [5, 4]) HN.out 1 rfl)).mono ?_; rw [HV1.out]; rintro e w8 ⟨rfl, hb8⟩; have HN := Lib.hid (HN.out.call hb8); clear hb8)
              refine hK.out _ _ ?_ (fun hHeld => ?_)
              · (try dsimp only); (exact ⟨bkeep HN.out.bel y5, bkeep HN.out.bel d00, bkeep HN.out.bel d01, bkeep HN.out.bel d02, bkeep HN.out.bel d03, bkeep HN.out.bel d04, bkeep HN.out.bel d05, bkeep HN.out.bel d10, bkeep HN.out.bel d11, bkeep HN.out.bel d12, bkeep HN.out.bel d13, bkeep HN.out.bel d14, bkeep HN.out.bel d15⟩)
              clear hK K
              try simp only [List.getElem_toArray, List.getElem_cons_zero, List.getElem_cons_succ, Act.put, List.setIfInBounds_toArray, List.set_cons_zero, List.set_cons_succ]
              refine wpAnyH_take (i := 12) (v := ?_) rfl (by kernel_rfl) (by kernel_rfl) (by kernel_rfl) (fun _ _ _ h => h) (Or.inl ⟨by rfl, ?_⟩) (by assumption) ?_
              rotate_left; focus (intro w hSw; (try dsimp only at hSw); go_simp; try (with_reducible rfl); done)
              try simp only [List.getElem_toArray, List.getElem_cons_zero, List.getElem_cons_succ, Act.put, List.setIfInBounds_toArray, List.set_cons_zero, List.set_cons_succ]
              refine wpAnyH_take (i := 13) (v := ?_) rfl (by kernel_rfl) (by kernel_rfl) (by kernel_rfl) (fun _ _ _ h => h) (Or.inl ⟨by rfl, ?_⟩) (by assumption) ?_
              rotate_left; focus (intro w hSw; (try dsimp only at hSw); go_simp; try (with_reducible rfl); done)
              try simp only [List.getElem_toArray, List.getElem_cons_zero, List.getElem_cons_succ, Act.put, List.setIfInBounds_toArray, List.set_cons_zero, List.set_cons_succ]
              refine wpAnyH_done (by kernel_rfl) ?_ _
              go_wp2
              go_ret
              exact ⟨by rw [HX.out, ← HTT.out]; rfl, (HST.out.call HN.out.bel).bel⟩
          · skip
            (refine St.stepBuild (n := 2) (T := 3) (cs := #[.int .i64 5, .int .i64 4]) rfl rfl (by intro u; kernel_rfl) HN.out ?_; intro gB w8 hst8; have HN := Lib.hid hst8; clear hst8)
            refine hK.out _ _ ?_ (fun hHeld => ?_)
            · (try dsimp only); (exact ⟨bkeep HN.out.bel y5, bkeep HN.out.bel d00, bkeep HN.out.bel d01, bkeep HN.out.bel d02, bkeep HN.out.bel d03, bkeep HN.out.bel d04, bkeep HN.out.bel d05, bkeep HN.out.bel d10, bkeep HN.out.bel d11, bkeep HN.out.bel d12, bkeep HN.out.bel d13, bkeep HN.out.bel d14, bkeep HN.out.bel d15⟩)
            clear hK K
            try simp only [List.getElem_toArray, List.getElem_cons_zero, List.getElem_cons_succ, Act.put, List.setIfInBounds_toArray, List.set_cons_zero, List.set_cons_succ]
            refine wpAnyH_ready (rs := [4]) (by kernel_rfl) (by simp) ?_
            refine AllReadyH.cons rfl (fun K hK => ?_) (AllReadyH.nil)
            (refine St.stepBuild (n := 1) (T := 3) (cs := #[.int .i64 5]) rfl rfl (by intro u; kernel_rfl) HN.out ?_; intro gA w8 hst8; have HN := Lib.hid hst8; clear hst8)
            refine hK.out _ _ ?_ (fun hHeld => ?_)
            · (try dsimp only); (exact ⟨bkeep HN.out.bel y5, bkeep HN.out.bel d00, bkeep HN.out.bel d01, bkeep HN.out.bel d02, bkeep HN.out.bel d03, bkeep HN.out.bel d04, bkeep HN.out.bel d05, bkeep HN.out.bel d10, bkeep HN.out.bel d11, bkeep HN.out.bel d12, bkeep HN.out.bel d13, bkeep HN.out.bel d14, bkeep HN.out.bel d15⟩)
            clear hK K
            try simp only [List.getElem_toArray, List.getElem_cons_zero, List.getElem_cons_succ, Act.put, List.setIfInBounds_toArray, List.set_cons_zero, List.set_cons_succ]
            refine wpAnyH_ready (rs := [5]) (by kernel_rfl) (by simp) ?_
            refine AllReadyH.cons rfl (fun K hK => ?_) (AllReadyH.nil)
            go_simp
            (go_at_call 53; refine (HK0.out [5] (some ⟨gA, 0, none⟩) gA 0 1 _ (HBW.out.trans ((HST.out.bel.trans (HN.out.bel.mono HST.out.bel.size)).mono HBW.out.size)) (by decide) (fun _ => rfl) (by first | exact Rcs.cels (ks := [5]) HN.out 0 rfl | exact Rcs.cels (ks := [5]) HN.out 1 rfl)).mono ?_; rw [HV0.out]; rintro e w8 ⟨rfl, hb8⟩; have HN := Lib.hid (HN.out.call hb8); clear hb8)
            refine hK.out _ _ ?_ (fun hHeld => ?_)
            · (try dsimp only); (exact ⟨bkeep HN.out.bel y5, bkeep HN.out.bel d00, bkeep HN.out.bel d01, bkeep HN.out.bel d02, bkeep HN.out.bel d03, bkeep HN.out.bel d04, bkeep HN.out.bel d05, bkeep HN.out.bel d10, bkeep HN.out.bel d11, bkeep HN.out.bel d12, bkeep HN.out.bel d13, bkeep HN.out.bel d14, bkeep HN.out.bel d15⟩)
            clear hK K
            try simp only [List.getElem_toArray, List.getElem_cons_zero, List.getElem_cons_succ, Act.put, List.setIfInBounds_toArray, List.set_cons_zero, List.set_cons_succ]
            refine wpAnyH_ready (rs := [11]) (by kernel_rfl) (by simp) ?_
            refine AllReadyH.cons rfl (fun K hK => ?_) (AllReadyH.nil)
            go_simp
            (go_at_call 53; refine (HK1.out [5, 4] (some ⟨gB, 0, none⟩) gB 0 2 _ (HBW.out.trans ((HST.out.bel.trans (HN.out.bel.mono HST.out.bel.size)).mono HBW.out.size)) (by decide) (fun _ => rfl) (by first | exact Rcs.cels (ks := [5, 4]) HN.out 0 rfl | exact Rcs.cels (ks := [5, 4]) HN.out 1 rfl)).mono ?_; rw [HV1.out]; rintro e w8 ⟨rfl, hb8⟩; have HN := Lib.hid (HN.out.call hb8); clear hb8)
            refine hK.out _ _ ?_ (fun hHeld => ?_)
            · (try dsimp only); (exact ⟨bkeep HN.out.bel y5, bkeep HN.out.bel d00, bkeep HN.out.bel d01, bkeep HN.out.bel d02, bkeep HN.out.bel d03, bkeep HN.out.bel d04, bkeep HN.out.bel d05, bkeep HN.out.bel d10, bkeep HN.out.bel d11, bkeep HN.out.bel d12, bkeep HN.out.bel d13, bkeep HN.out.bel d14, bkeep HN.out.bel d15⟩)
            clear hK K
            try simp only [List.getElem_toArray, List.getElem_cons_zero, List.getElem_cons_succ, Act.put, List.setIfInBounds_toArray, List.set_cons_zero, List.set_cons_succ]
            refine wpAnyH_take (i := 12) (v := ?_) rfl (by kernel_rfl) (by kernel_rfl) (by kernel_rfl) (fun _ _ _ h => h) (Or.inl ⟨by rfl, ?_⟩) (by assumption) ?_
            rotate_left; focus (intro w hSw; (try dsimp only at hSw); go_simp; try (with_reducible rfl); done)
            try simp only [List.getElem_toArray, List.getElem_cons_zero, List.getElem_cons_succ, Act.put, List.setIfInBounds_toArray, List.set_cons_zero, List.set_cons_succ]
            refine wpAnyH_take (i := 13) (v := ?_) rfl (by kernel_rfl) (by kernel_rfl) (by kernel_rfl) (fun _ _ _ h => h) (Or.inl ⟨by rfl, ?_⟩) (by assumption) ?_
            rotate_left; focus (intro w hSw; (try dsimp only at hSw); go_simp; try (with_reducible rfl); done)
            try simp only [List.getElem_toArray, List.getElem_cons_zero, List.getElem_cons_succ, Act.put, List.setIfInBounds_toArray, List.set_cons_zero, List.set_cons_succ]
            refine wpAnyH_done (by kernel_rfl) ?_ _
            go_wp2
            go_ret
            exact ⟨by rw [HX.out, ← HTT.out]; rfl, (HST.out.call HN.out.bel).bel⟩
        · subst hkd
          rw [if_neg (by decide), if_neg (by decide), if_neg (by decide), if_neg (by decide), if_neg (by decide)] at hT2
          have hv0 := Rcs.brk_size [] kd0 X0
          have hv1 := Rcs.brk_size [5] kd1 X1
          have HTT := Lib.hid hT2
          clear hT2
          obtain ⟨V0, hV0⟩ : ∃ V, Rcs.brk [] kd0 X0 = V := ⟨_, rfl⟩
          obtain ⟨V1, hV1⟩ : ∃ V, Rcs.brk [5] kd1 X1 = V := ⟨_, rfl⟩
          rw [hV0] at hv0 HTT
          rw [hV1] at hv1 HTT
          have HV0 := Lib.hid hV0
          have HV1 := Lib.hid hV1
          clear hV0 hV1
          have hadd1 : ∀ W, (Op.stringOp .add V0 ⟨#[124]⟩).run Tryd.prog W = .ok (.string (V0 ++ ⟨#[124]⟩)) W := fun W => run_string_add_sum W _ _ (by show _ + 1 ≤ _; omega)
          have hadd2 : ∀ W, (Op.stringOp .add (V0 ++ ⟨#[124]⟩) V1).run Tryd.prog W = .ok (.string (V0 ++ ⟨#[124]⟩ ++ V1)) W := fun W => run_string_add_sum W _ _ (by rw [ByteArray.size_append]; show _ + 1 + _ ≤ _; omega)
          go_wp2_with (fail)
          refine wp_region_held_drew (S := (fun w' => w'.cell? ⟨W.heap.size, 5, none⟩ = some (.slice (some ⟨bk, ok, none⟩) kl.length ck) ∧ w'.cell? ⟨bk, ok, none⟩ = some (.int .i64 kd0) ∧ w'.cell? ⟨bk, ok + 1, none⟩ = some (.int .u64 b00) ∧ w'.cell? ⟨bk, ok + 2, none⟩ = some (.int .u64 b01) ∧ w'.cell? ⟨bk, ok + 3, none⟩ = some (.int .u64 b02) ∧ w'.cell? ⟨bk, ok + 4, none⟩ = some (.int .u64 b03) ∧ w'.cell? ⟨bk, ok + 5, none⟩ = some (.slice ax0 nx0 cx0) ∧ w'.cell? ⟨bk, ok + 6, none⟩ = some (.int .i64 kd1) ∧ w'.cell? ⟨bk, ok + 6 + 1, none⟩ = some (.int .u64 b10) ∧ w'.cell? ⟨bk, ok + 6 + 2, none⟩ = some (.int .u64 b11) ∧ w'.cell? ⟨bk, ok + 6 + 3, none⟩ = some (.int .u64 b12) ∧ w'.cell? ⟨bk, ok + 6 + 4, none⟩ = some (.int .u64 b13) ∧ w'.cell? ⟨bk, ok + 6 + 5, none⟩ = some (.slice ax1 nx1 cx1))) (by kernel_rfl) ?_ (fun hHeld => ?_)
          · (try dsimp only); (exact ⟨bkeep HN.out.bel y5, bkeep HN.out.bel d00, bkeep HN.out.bel d01, bkeep HN.out.bel d02, bkeep HN.out.bel d03, bkeep HN.out.bel d04, bkeep HN.out.bel d05, bkeep HN.out.bel d10, bkeep HN.out.bel d11, bkeep HN.out.bel d12, bkeep HN.out.bel d13, bkeep HN.out.bel d14, bkeep HN.out.bel d15⟩)

          refine wpAnyH_take (i := 0) (v := ?_) rfl (by kernel_rfl) (by kernel_rfl) (by kernel_rfl) (fun _ _ _ h => h) (Or.inl ⟨by rfl, ?_⟩) (by assumption) ?_
          rotate_left; focus (intro w hSw; (try dsimp only at hSw); go_simp; try (with_reducible rfl); done)
          try simp only [List.getElem_toArray, List.getElem_cons_zero, List.getElem_cons_succ, Act.put, List.setIfInBounds_toArray, List.set_cons_zero, List.set_cons_succ]
          refine wpAnyH_take (i := 1) (v := ?_) rfl (by kernel_rfl) (by kernel_rfl) (by kernel_rfl) (fun _ _ _ h => h) (Or.inl ⟨by rfl, ?_⟩) (by assumption) ?_
          rotate_left; focus (intro w hSw; (try dsimp only at hSw); go_simp; try (with_reducible rfl); done)
          try simp only [List.getElem_toArray, List.getElem_cons_zero, List.getElem_cons_succ, Act.put, List.setIfInBounds_toArray, List.set_cons_zero, List.set_cons_succ]
          refine wpAnyH_take (i := 2) (v := ?_) rfl (by kernel_rfl) (by kernel_rfl) (by kernel_rfl) (fun _ _ _ h => h) (Or.inl ⟨by rfl, ?_⟩) (by assumption) ?_
          rotate_left; focus (intro w hSw; (try dsimp only at hSw); go_simp; try (with_reducible rfl); done)
          try simp only [List.getElem_toArray, List.getElem_cons_zero, List.getElem_cons_succ, Act.put, List.setIfInBounds_toArray, List.set_cons_zero, List.set_cons_succ]
          refine wpAnyH_take (i := 3) (v := ?_) rfl (by kernel_rfl) (by kernel_rfl) (by kernel_rfl) (fun _ _ _ h => h) (Or.inl ⟨by rfl, ?_⟩) (by assumption) ?_
          rotate_left; focus (intro w hSw; (try dsimp only at hSw); go_simp; try (with_reducible rfl); done)
          try simp only [List.getElem_toArray, List.getElem_cons_zero, List.getElem_cons_succ, Act.put, List.setIfInBounds_toArray, List.set_cons_zero, List.set_cons_succ]
          refine wpAnyH_take (i := 6) (v := ?_) rfl (by kernel_rfl) (by kernel_rfl) (by kernel_rfl) (fun _ _ _ h => h) (Or.inl ⟨by rfl, ?_⟩) (by assumption) ?_
          rotate_left; focus (intro w hSw; (try dsimp only at hSw); go_simp; try (with_reducible rfl); done)
          try simp only [List.getElem_toArray, List.getElem_cons_zero, List.getElem_cons_succ, Act.put, List.setIfInBounds_toArray, List.set_cons_zero, List.set_cons_succ]
          refine wpAnyH_take (i := 7) (v := ?_) rfl (by kernel_rfl) (by kernel_rfl) (by kernel_rfl) (fun _ _ _ h => h) (Or.inl ⟨by rfl, ?_⟩) (by assumption) ?_
          rotate_left; focus (intro w hSw; (try dsimp only at hSw); go_simp; try (with_reducible rfl); done)
          try simp only [List.getElem_toArray, List.getElem_cons_zero, List.getElem_cons_succ, Act.put, List.setIfInBounds_toArray, List.set_cons_zero, List.set_cons_succ]
          refine wpAnyH_take (i := 8) (v := ?_) rfl (by kernel_rfl) (by kernel_rfl) (by kernel_rfl) (fun _ _ _ h => h) (Or.inl ⟨by rfl, ?_⟩) (by assumption) ?_
          rotate_left; focus (intro w hSw; (try dsimp only at hSw); go_simp; try (with_reducible rfl); done)
          try simp only [List.getElem_toArray, List.getElem_cons_zero, List.getElem_cons_succ, Act.put, List.setIfInBounds_toArray, List.set_cons_zero, List.set_cons_succ]
          refine wpAnyH_take (i := 9) (v := ?_) rfl (by kernel_rfl) (by kernel_rfl) (by kernel_rfl) (fun _ _ _ h => h) (Or.inl ⟨by rfl, ?_⟩) (by assumption) ?_
          rotate_left; focus (intro w hSw; (try dsimp only at hSw); go_simp; try (with_reducible rfl); done)
          try simp only [List.getElem_toArray, List.getElem_cons_zero, List.getElem_cons_succ, Act.put, List.setIfInBounds_toArray, List.set_cons_zero, List.set_cons_succ]
          refine wpAnyH_ready (rs := [4, 10]) (by kernel_rfl) (by simp) ?_
          refine AllReadyH.cons rfl (fun K hK => ?_) (AllReadyH.cons rfl (fun K hK => ?_) (AllReadyH.nil))
          · skip
            go_simp
            (go_at_call 53; refine (HK0.out [] none 0 0 0 _ (HBW.out.trans ((HST.out.bel.trans (HN.out.bel.mono HST.out.bel.size)).mono HBW.out.size)) (by decide) (fun h => absurd h (by decide)) (fun i hi => absurd hi (by simp))).mono ?_; rw [HV0.out]; rintro e w8 ⟨rfl, hb8⟩; have HN := Lib.hid (HN.out.call hb8); clear hb8)
            refine hK.out _ _ ?_ (fun hHeld => ?_)
            · (try dsimp only); (exact ⟨bkeep HN.out.bel y5, bkeep HN.out.bel d00, bkeep HN.out.bel d01, bkeep HN.out.bel d02, bkeep HN.out.bel d03, bkeep HN.out.bel d04, bkeep HN.out.bel d05, bkeep HN.out.bel d10, bkeep HN.out.bel d11, bkeep HN.out.bel d12, bkeep HN.out.bel d13, bkeep HN.out.bel d14, bkeep HN.out.bel d15⟩)
            clear hK K
            try simp only [List.getElem_toArray, List.getElem_cons_zero, List.getElem_cons_succ, Act.put, List.setIfInBounds_toArray, List.set_cons_zero, List.set_cons_succ]
            refine wpAnyH_take (i := 5) (v := ?_) rfl (by kernel_rfl) (by kernel_rfl) (by kernel_rfl) (fun _ _ _ h => h) (Or.inl ⟨by rfl, ?_⟩) (by assumption) ?_
            rotate_left; focus (intro w hSw; (try dsimp only at hSw); go_simp; try (with_reducible rfl); done)
            try simp only [List.getElem_toArray, List.getElem_cons_zero, List.getElem_cons_succ, Act.put, List.setIfInBounds_toArray, List.set_cons_zero, List.set_cons_succ]
            refine wpAnyH_ready (rs := [10]) (by kernel_rfl) (by simp) ?_
            refine AllReadyH.cons rfl (fun K hK => ?_) (AllReadyH.nil)
            (refine St.stepBuild (n := 1) (T := 3) (cs := #[.int .i64 5]) rfl rfl (by intro u; kernel_rfl) HN.out ?_; intro gB w8 hst8; have HN := Lib.hid hst8; clear hst8)
            refine hK.out _ _ ?_ (fun hHeld => ?_)
            · (try dsimp only); (exact ⟨bkeep HN.out.bel y5, bkeep HN.out.bel d00, bkeep HN.out.bel d01, bkeep HN.out.bel d02, bkeep HN.out.bel d03, bkeep HN.out.bel d04, bkeep HN.out.bel d05, bkeep HN.out.bel d10, bkeep HN.out.bel d11, bkeep HN.out.bel d12, bkeep HN.out.bel d13, bkeep HN.out.bel d14, bkeep HN.out.bel d15⟩)
            clear hK K
            try simp only [List.getElem_toArray, List.getElem_cons_zero, List.getElem_cons_succ, Act.put, List.setIfInBounds_toArray, List.set_cons_zero, List.set_cons_succ]
            refine wpAnyH_ready (rs := [11]) (by kernel_rfl) (by simp) ?_
            refine AllReadyH.cons rfl (fun K hK => ?_) (AllReadyH.nil)
            go_simp
            (go_at_call 53; refine (HK1.out [5] (some ⟨gB, 0, none⟩) gB 0 1 _ (HBW.out.trans ((HST.out.bel.trans (HN.out.bel.mono HST.out.bel.size)).mono HBW.out.size)) (by decide) (fun _ => rfl) (by first | exact Rcs.cels (ks := [5]) HN.out 0 rfl | exact Rcs.cels (ks := [5]) HN.out 1 rfl)).mono ?_; rw [HV1.out]; rintro e w8 ⟨rfl, hb8⟩; have HN := Lib.hid (HN.out.call hb8); clear hb8)
            refine hK.out _ _ ?_ (fun hHeld => ?_)
            · (try dsimp only); (exact ⟨bkeep HN.out.bel y5, bkeep HN.out.bel d00, bkeep HN.out.bel d01, bkeep HN.out.bel d02, bkeep HN.out.bel d03, bkeep HN.out.bel d04, bkeep HN.out.bel d05, bkeep HN.out.bel d10, bkeep HN.out.bel d11, bkeep HN.out.bel d12, bkeep HN.out.bel d13, bkeep HN.out.bel d14, bkeep HN.out.bel d15⟩)
            clear hK K
            try simp only [List.getElem_toArray, List.getElem_cons_zero, List.getElem_cons_succ, Act.put, List.setIfInBounds_toArray, List.set_cons_zero, List.set_cons_succ]
            refine wpAnyH_take (i := 12) (v := ?_) rfl (by kernel_rfl) (by kernel_rfl) (by kernel_rfl) (fun _ _ _ h => h) (Or.inl ⟨by rfl, ?_⟩) (by assumption) ?_
            rotate_left; focus (intro w hSw; (try dsimp only at hSw); go_simp; try (with_reducible rfl); done)
            try simp only [List.getElem_toArray, List.getElem_cons_zero, List.getElem_cons_succ, Act.put, List.setIfInBounds_toArray, List.set_cons_zero, List.set_cons_succ]
            refine wpAnyH_take (i := 13) (v := ?_) rfl (by kernel_rfl) (by kernel_rfl) (by kernel_rfl) (fun _ _ _ h => h) (Or.inl ⟨by rfl, ?_⟩) (by assumption) ?_
            rotate_left; focus (intro w hSw; (try dsimp only at hSw); go_simp; try (with_reducible rfl); done)
            try simp only [List.getElem_toArray, List.getElem_cons_zero, List.getElem_cons_succ, Act.put, List.setIfInBounds_toArray, List.set_cons_zero, List.set_cons_succ]
            refine wpAnyH_done (by kernel_rfl) ?_ _
            go_wp2
            go_ret
            exact ⟨by rw [HX.out, ← HTT.out]; rfl, (HST.out.call HN.out.bel).bel⟩
          · skip
            (refine St.stepBuild (n := 1) (T := 3) (cs := #[.int .i64 5]) rfl rfl (by intro u; kernel_rfl) HN.out ?_; intro gB w8 hst8; have HN := Lib.hid hst8; clear hst8)
            refine hK.out _ _ ?_ (fun hHeld => ?_)
            · (try dsimp only); (exact ⟨bkeep HN.out.bel y5, bkeep HN.out.bel d00, bkeep HN.out.bel d01, bkeep HN.out.bel d02, bkeep HN.out.bel d03, bkeep HN.out.bel d04, bkeep HN.out.bel d05, bkeep HN.out.bel d10, bkeep HN.out.bel d11, bkeep HN.out.bel d12, bkeep HN.out.bel d13, bkeep HN.out.bel d14, bkeep HN.out.bel d15⟩)
            clear hK K
            try simp only [List.getElem_toArray, List.getElem_cons_zero, List.getElem_cons_succ, Act.put, List.setIfInBounds_toArray, List.set_cons_zero, List.set_cons_succ]
            refine wpAnyH_ready (rs := [4]) (by kernel_rfl) (by simp) ?_
            refine AllReadyH.cons rfl (fun K hK => ?_) (AllReadyH.nil)
            go_simp
            (go_at_call 53; refine (HK0.out [] none 0 0 0 _ (HBW.out.trans ((HST.out.bel.trans (HN.out.bel.mono HST.out.bel.size)).mono HBW.out.size)) (by decide) (fun h => absurd h (by decide)) (fun i hi => absurd hi (by simp))).mono ?_; rw [HV0.out]; rintro e w8 ⟨rfl, hb8⟩; have HN := Lib.hid (HN.out.call hb8); clear hb8)
            refine hK.out _ _ ?_ (fun hHeld => ?_)
            · (try dsimp only); (exact ⟨bkeep HN.out.bel y5, bkeep HN.out.bel d00, bkeep HN.out.bel d01, bkeep HN.out.bel d02, bkeep HN.out.bel d03, bkeep HN.out.bel d04, bkeep HN.out.bel d05, bkeep HN.out.bel d10, bkeep HN.out.bel d11, bkeep HN.out.bel d12, bkeep HN.out.bel d13, bkeep HN.out.bel d14, bkeep HN.out.bel d15⟩)
            clear hK K
            try simp only [List.getElem_toArray, List.getElem_cons_zero, List.getElem_cons_succ, Act.put, List.setIfInBounds_toArray, List.set_cons_zero, List.set_cons_succ]
            refine wpAnyH_take (i := 5) (v := ?_) rfl (by kernel_rfl) (by kernel_rfl) (by kernel_rfl) (fun _ _ _ h => h) (Or.inl ⟨by rfl, ?_⟩) (by assumption) ?_
            rotate_left; focus (intro w hSw; (try dsimp only at hSw); go_simp; try (with_reducible rfl); done)
            try simp only [List.getElem_toArray, List.getElem_cons_zero, List.getElem_cons_succ, Act.put, List.setIfInBounds_toArray, List.set_cons_zero, List.set_cons_succ]
            refine wpAnyH_ready (rs := [11]) (by kernel_rfl) (by simp) ?_
            refine AllReadyH.cons rfl (fun K hK => ?_) (AllReadyH.nil)
            go_simp
            (go_at_call 53; refine (HK1.out [5] (some ⟨gB, 0, none⟩) gB 0 1 _ (HBW.out.trans ((HST.out.bel.trans (HN.out.bel.mono HST.out.bel.size)).mono HBW.out.size)) (by decide) (fun _ => rfl) (by first | exact Rcs.cels (ks := [5]) HN.out 0 rfl | exact Rcs.cels (ks := [5]) HN.out 1 rfl)).mono ?_; rw [HV1.out]; rintro e w8 ⟨rfl, hb8⟩; have HN := Lib.hid (HN.out.call hb8); clear hb8)
            refine hK.out _ _ ?_ (fun hHeld => ?_)
            · (try dsimp only); (exact ⟨bkeep HN.out.bel y5, bkeep HN.out.bel d00, bkeep HN.out.bel d01, bkeep HN.out.bel d02, bkeep HN.out.bel d03, bkeep HN.out.bel d04, bkeep HN.out.bel d05, bkeep HN.out.bel d10, bkeep HN.out.bel d11, bkeep HN.out.bel d12, bkeep HN.out.bel d13, bkeep HN.out.bel d14, bkeep HN.out.bel d15⟩)
            clear hK K
            try simp only [List.getElem_toArray, List.getElem_cons_zero, List.getElem_cons_succ, Act.put, List.setIfInBounds_toArray, List.set_cons_zero, List.set_cons_succ]
            refine wpAnyH_take (i := 12) (v := ?_) rfl (by kernel_rfl) (by kernel_rfl) (by kernel_rfl) (fun _ _ _ h => h) (Or.inl ⟨by rfl, ?_⟩) (by assumption) ?_
            rotate_left; focus (intro w hSw; (try dsimp only at hSw); go_simp; try (with_reducible rfl); done)
            try simp only [List.getElem_toArray, List.getElem_cons_zero, List.getElem_cons_succ, Act.put, List.setIfInBounds_toArray, List.set_cons_zero, List.set_cons_succ]
            refine wpAnyH_take (i := 13) (v := ?_) rfl (by kernel_rfl) (by kernel_rfl) (by kernel_rfl) (fun _ _ _ h => h) (Or.inl ⟨by rfl, ?_⟩) (by assumption) ?_
            rotate_left; focus (intro w hSw; (try dsimp only at hSw); go_simp; try (with_reducible rfl); done)
            try simp only [List.getElem_toArray, List.getElem_cons_zero, List.getElem_cons_succ, Act.put, List.setIfInBounds_toArray, List.set_cons_zero, List.set_cons_succ]
            refine wpAnyH_done (by kernel_rfl) ?_ _
            go_wp2
            go_ret
            exact ⟨by rw [HX.out, ← HTT.out]; rfl, (HST.out.call HN.out.bel).bel⟩

theorem rxShown_all (w0 : World) (hT : Tz.Tab w0) (F : Nat → Prop) : ∀ n, Rcs.Shows w0 F n := by
  intro n
  induction n with
  | zero => intro t cs ks ao b off cap W ht; exact ht.elim
  | succ n ih =>
    have h0 : Rcs.Shows0 w0 F (n + 1) := fun t cs W ht hg hc hB => by
      have := rxShown_step w0 hT F n ih t cs [] none 0 0 0 W (fun h => absurd h (by decide)) ht hg hc hB (by decide) (fun h => absurd h (by decide)) (fun i hi => absurd hi (by simp))
      rw [Rcs.brk_nil] at this
      exact this
    intro t cs ks ao b off cap W ht hg hc hB hl hao hcell
    exact rxShown_step w0 hT F n ih t cs ks ao b off cap W (fun _ => h0) ht hg hc hB hl hao hcell

def Rcs.prints (n : Nat) (t : Rx) : ByteArray := if Rx.err n t = 0 then Rcs.sh n t else ⟨#[]⟩

set_option maxRecDepth 100000 in
theorem rxPrint_any (F : Nat → Prop) (n : Nat) (t : Rx) (cs : Array Value) (w0 w : World) (hT : Tz.Tab w0) (hF : ∀ b, F b → b < w0.heap.size) (hB : Below w0.heap.size w0 w) (ht : (Rx.enc n).R F w0 cs.toList t) :
    Calls Tryd.prog 29 #[.agg cs] w fun e w' => e = .returned (.tuple #[.string (Rcs.prints n t), .int .i64 (Rx.err n t)]) ∧ Below w.heap.size w w' := by
  obtain ⟨n', hn, vk, hcs, -, hok, hk⟩ := Rx.opened ht
  obtain ⟨a0, a1, a2, a3, hws⟩ := Cs.okFour hok
  have hcs2 : cs = #[.int .i64 t.kind, .int .u64 a0, .int .u64 a1, .int .u64 a2, .int .u64 a3, vk] := by
    apply Array.toList_inj.1
    rw [hcs, Rx.cel, hws]; rfl
  subst hcs2
  obtain ⟨ak, bk, ok, ck, rfl, -, -, -⟩ := Rx.kidsAt hk
  have HST := Lib.hid ((St.init w).alloc #[.int .i64 t.kind, .int .u64 a0, .int .u64 a1, .int .u64 a2, .int .u64 a3, .slice ak t.kids.length ck] 42)
  have HBW := Lib.hid hB
  have HC := Lib.hid (fun W' (h : Below w0.heap.size w0 W') => rexCheck_any F n t _ W' (Enc.mono _ ht (fun _ h => h) (fun b hb => h.block b (hF b hb))))
  have HS := Lib.hid (fun (hg : Rx.err n t = 0) W' (h : Below w0.heap.size w0 W') => rxShown_all w0 hT F n t _ [] none 0 0 0 W' ht (Rx.err_good hg).1 (Rx.err_good hg).2 h (by decide) (fun h => absurd h (by decide)) (fun i hi => absurd hi (by simp)))
  have HP := Lib.hid (show Rcs.prints n t = if Rx.err n t = 0 then Rcs.sh n t else ⟨#[]⟩ from rfl)
  obtain ⟨PR, hPR⟩ : ∃ x, Rcs.prints n t = x := ⟨_, rfl⟩
  rw [hPR] at HP ⊢
  clear hPR ht hcs hok hws hk hT hB hF hn
  generalize Rx.err n t = E at *
  generalize t.kind = kd at *
  generalize t.kids.length = nk at *
  go_enter Tryd.func29, Tryd.ntmps29
  go_wp2_with (fail)
  go_at_call 30
  refine (HC.out _ (HBW.out.trans (HST.out.bel.mono HBW.out.size))).mono ?_
  rintro e w1 ⟨rfl, hb1⟩
  have HST := Lib.hid (HST.out.call hb1)
  obtain ⟨y0, y1, y2, y3, y4, y5⟩ := Rx.cel6 HST.out 0 rfl
  clear hb1 HC
  by_cases hE : E = 0
  · subst hE
    have HS2 := Lib.hid (fun W' h => HS.out rfl W' h)
    have HPE := Lib.hid (show PR = Rcs.sh n t by rw [HP.out, if_pos rfl])
    clear HS
    go_wp2_with (fail)
    go_at_call 53
    refine (HS2.out _ (HBW.out.trans (HST.out.bel.mono HBW.out.size))).mono ?_
    rintro e w2 ⟨rfl, hb2⟩
    have HST := Lib.hid (HST.out.call hb2)
    clear hb2
    go_wp2
    go_ret2
    exact ⟨by rw [HPE.out]; rfl, HST.out.bel⟩
  · have hne : (E != 0) = true := by simpa using hE
    have HPE := Lib.hid (show PR = ⟨#[]⟩ by rw [HP.out, if_neg hE])
    clear HS hE
    go_wp2
    go_ret2
    exact ⟨by rw [HPE.out]; rfl, HST.out.bel⟩
end Go.Proofs.YtlgabpcddldelaaDoor
