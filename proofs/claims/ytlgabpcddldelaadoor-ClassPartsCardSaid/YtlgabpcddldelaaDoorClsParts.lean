/-
  Parts of package class.
-/
import Derived.Test.YtlgabpcddldelaaDoorClsOwn
import Derived.Test.YtlgabpcddldelaaDoorArrNe
namespace Go.Proofs.YtlgabpcddldelaaDoor
set_option linter.unusedVariables false
set_option linter.unusedSimpArgs false
open Go.ChangeShapes Go.WideShapes Go.ChangeAt Go.RowKit

namespace Cp
theorem take_succ {L : List (List Nat)} {i : Nat} (h : i < L.length) : L.take (i + 1) = L.take i ++ [L.getD i []] := by
  rw [List.take_add_one, List.getElem?_eq_getElem h, show L.getD i [] = L[i] by simp [List.getD, List.getElem?_eq_getElem h]]; rfl
theorem own_one {w : World} {g : Nat} {e : TypeId} {size : Nat} {u : Value} (h : w.heap[g]? = some (.cells u.cells e (0, 0))) (hs : u.cells.size = size) : Own w 0 e size (.slice (some ⟨g, 0, none⟩) 1 1) [u] := by
  refine ⟨by simp [cellsOf, hs], .inr ⟨g, 1, u.cells, rfl, Nat.zero_le _, h, Nat.le_refl _, by decide, by simp [hs], ?_⟩⟩
  simp [cellsOf]
  exact List.take_of_length_le (by rw [Array.length_toList]; omega)
theorem own_at' {w : World} {B : Nat} {e : TypeId} {g n c : Nat} {l : List (List Nat)} (hl : ∀ p ∈ l, Dm.Ok4 p) (hn : l.length ≤ 256) (hp : 0 < l.length) (h : Own w B e 4 (.slice (some ⟨g, 0, none⟩) n c) (l.map Cs.clV)) : Cs.At w (some ⟨g, 0, none⟩) g 0 l := by
  obtain ⟨g', cap, hv, ha⟩ := own_at hl (by omega) hp h
  simp only [Value.slice.injEq, Option.some.injEq, Addr.mk.injEq, and_true] at hv
  obtain ⟨rfl, rfl, rfl⟩ := hv
  exact ha
theorem own_free {w : World} {B : Nat} {e : TypeId} {size g n c : Nat} {xs : List Value} (h : Own w B e size (.slice (some ⟨g, 0, none⟩) n c) xs) (o : Nat) : w.frozen? ⟨g, o, none⟩ = false := by
  obtain ⟨_, h2⟩ := h
  rcases h2 with ⟨h2, _⟩ | ⟨g', cap', cur, hv, _, hg, _⟩
  · cases h2
  · simp only [Value.slice.injEq, Option.some.injEq, Addr.mk.injEq] at hv
    obtain ⟨⟨rfl, _⟩, _, _⟩ := hv
    simp [World.frozen?, hg]
theorem meet_ins {p c : List Nat} (hp : Dm.Ok4 p) (hc : Dm.Ok4 c) : Cs.zip (· &&& ·) p c = ins p c := Cs.and_eq hp hc
theorem ok_inv {c : List Nat} (hc : Dm.Ok4 c) : Dm.Ok4 (Cs.inv c) := by rw [Cs.inv_eq hc]; exact Cs.ok_of _
theorem meet_outs {p c : List Nat} (hp : Dm.Ok4 p) (hc : Dm.Ok4 c) : Cs.zip (· &&& ·) p (Cs.inv c) = outs p c := by
  rw [Cs.and_eq hp (ok_inv hc)]
  exact Cs.of_congr fun x hx => by rw [Cs.inv_eq hc, Cs.mem_of hx]
theorem eqz {a0 a1 a2 a3 : Nat} (W : World) : (Op.equalIn 10000 24 (.agg #[.int .u64 a0, .int .u64 a1, .int .u64 a2, .int .u64 a3]) (.agg #[.int .u64 0, .int .u64 0, .int .u64 0, .int .u64 0])).run Tryd.prog W = .ok (decide ([a0, a1, a2, a3] = Dm.zero)) W :=
  (run_equalIn_arr2 (P := Tryd.prog) (n := 4) (k := .u64) Tryd.underlying24 Tryd.underlying22 (by kernel_rfl) [(a0 : Int), a1, a2, a3] [0, 0, 0, 0] rfl rfl 9998 W).trans (by
    congr 1
    rw [decide_eq_decide]
    unfold Dm.zero
    simp)
theorem cut_len (c : List Nat) : ∀ l : List (List Nat), (l.flatMap (cut c)).length ≤ 2 * l.length
  | [] => by simp
  | p :: l => by
    have := cut_len c l
    have h1 : (cut c p).length ≤ 2 := by unfold cut one; split <;> split <;> simp
    rw [List.flatMap_cons, List.length_append, List.length_cons]; omega
end Cp

set_option maxRecDepth 100000 in
set_option maxHeartbeats 4000000 in
theorem clParts_any (L : List (List Nat)) (ao : Option Addr) (b off cap : Nat) (hl : L.length ≤ 40) (w : World) (hA : Cs.At w ao b off L) (hT : Tz.Tab w) :
    Calls Tryd.prog 23 #[.slice ao L.length cap] w fun e w' => ∃ v, e = .returned v ∧ St w w' [aOwn 24 4 v ((Cp.ref L).map Cs.clV)] := by
  have HA := Lib.hid hA
  have HT := Lib.hid hT
  have HN := Lib.hid (fun W => clNot_any Dm.zero Dm.ok_zero W)
  have hnz : Cs.clV (Cs.inv Dm.zero) = .agg #[.int .u64 18446744073709551615, .int .u64 18446744073709551615, .int .u64 18446744073709551615, .int .u64 18446744073709551615] := rfl
  have HFULL := Lib.hid (show Cs.inv Dm.zero = Cs.of (fun _ => true) by rw [Cs.inv_eq Dm.ok_zero]; exact Cs.of_congr fun x _ => by rw [Dm.mem_zero]; rfl)
  rw [hnz] at HN
  have hmm := @run_makeMap Tryd.prog
  have hllI : (L.length : Int) ≤ 40 := by omega
  clear hA hT
  go_enter Tryd.func23, Tryd.ntmps23
  go_wp2_with (fail)
  go_at_call 18
  refine (HN.out _).mono ?_
  rintro e w1 ⟨rfl, hb1⟩
  have HST1 := Lib.hid ((St.init w).call hb1)
  have hM := ((HST1.out.alloc #[.int .u64 18446744073709551615, .int .u64 18446744073709551615, .int .u64 18446744073709551615, .int .u64 18446744073709551615] 24).turn (A' := aOwn 24 4 (.slice (some ⟨w1.heap.size, 0, none⟩) 1 1) ([Cs.inv Dm.zero].map Cs.clV)) rfl (Cp.own_one (u := Cs.clV (Cs.inv Dm.zero)) (heap_alloc_new _ _) rfl)).makeMap 24 3
  simp only [World.size_alloc] at hM
  rw [HFULL.out] at hM
  have HM := Lib.hid hM
  have HI0 := Lib.hid Cp.inv_start
  clear hM hb1 hnz
  go_wp2_with (fail)
  generalize w1.heap.size + 1 = gm at *
  generalize w1.heap.size = g0 at *
  go_loopg [3, 20] L.length (fun gz v3 v20 wr => ∃ (i g c m : Nat) (all : List (List Nat)) (M : DataW Unit), i ≤ L.length ∧ gz = L.length - i ∧ v20 = .int .i64 i ∧ v3 = .slice (some ⟨g, 0, none⟩) all.length c ∧ m ≤ i ∧ Hid (Cp.Inv (L.take i) all) ∧ Hid (Cp.Counts M (L.take i)) ∧ St w wr [aMap 24 3 gm m M, aOwn 24 4 (.slice (some ⟨g, 0, none⟩) all.length c) (all.map Cs.clV)])
  case atStart =>
    exact ⟨0, g0, 1, 0, [Cs.of fun _ => true], _, by omega, by omega, rfl, rfl, by omega, HI0, Lib.hid Cp.counts_nil, HM.out⟩
  case round =>
    clear HM HI0
    obtain ⟨i, g, c, m, all, M, hi, hgz, rfl, rfl, hmi, HI, HC, hst⟩ := hrel
    have HGZ := Lib.hid hgz
    clear hgz
    by_cases hlt : i < L.length
    · have hltI : (i : Int) < L.length := by omega
      obtain ⟨q0, q1, q2, q3, hq, e0, e1, e2, e3⟩ := (HA.out.keep hst.bel).four hlt
      obtain rfl := HA.out.at0 (by omega)
      have hok := HA.out.ok i hlt
      have htk := Cp.take_succ hlt
      have hlen1 : (L.take i).length ≤ i := by rw [List.length_take]; omega
      obtain ⟨cl, hcl⟩ : ∃ c, L.getD i [] = c := ⟨_, rfl⟩
      rw [hcl] at hok htk hq
      obtain ⟨kl, hkl⟩ := Cp.clKey hok
      have hat := HC.out.at hkl
      have hnew := HC.out.put hkl
      have hput := hnew.at hkl
      rw [List.count_append, List.count_singleton_self] at hput
      have hcnt : (L.take i).count cl ≤ i := Nat.le_trans List.count_le_length hlen1
      have hmem : 0 < (L.take i).count cl → cl ∈ L.take i := fun h => List.count_pos_iff.1 h
      obtain ⟨pre, hpre⟩ : ∃ c, L.take i = c := ⟨_, rfl⟩
      rw [hpre] at hat hnew hput hcnt hmem htk HI HC hlen1
      obtain ⟨cnt, hct⟩ : ∃ n, pre.count cl = n := ⟨_, rfl⟩
      rw [hct] at hat hnew hput hcnt hmem
      obtain ⟨cv, hcv⟩ : ∃ cv : Int, ((cnt + 1 : Nat) : Int) = cv := ⟨_, rfl⟩
      rw [hcv] at hnew hput
      have hwr : IntKind.i64.wrap ((cnt : Int) + 1) = cv := by rw [← hcv]; exact IntWalk.i64_in _ (by omega)
      have hcw := Lib.hid (show (Lit.int .i64 cv).wf = true from WalkArith.wf_i64 (by omega))
      have HKL := Lib.hid hkl; have HAT := Lib.hid hat; have HPUT := Lib.hid hput; have HNEW := Lib.hid hnew; have HTK := Lib.hid htk; have HOKC := Lib.hid hok
      have HSEEN := Lib.hid (fun h : 0 < cnt => Cp.inv_seen (hmem h) HI.out)
      have HCUT := Lib.hid (Cp.inv_cut cl HI.out)
      have HAL := Lib.hid (Cp.inv_len HI.out)
      have HAOK := Lib.hid (Cp.ok_of HI.out)
      have HANE := Lib.hid (show 0 < all.length from List.length_pos_of_mem (HI.out.got 0 (by decide)))
      have hcvI : cv = (cnt : Int) + 1 := by rw [← hcv]; omega
      have hcnI : (cnt : Int) ≤ 40 := by omega
      subst hq
      clear hok hkl hat hput hnew hmem hct hcv htk HI HC hlen1 hpre hcl
      have HST := Lib.hid (hst.alloc #[.int .u64 q0, .int .u64 q1, .int .u64 q2, .int .u64 q3] 24).drew
      clear hst
      go_wp2_with (fail)
      generalize hW1 : wr.alloc (.cells #[.int .u64 q0, .int .u64 q1, .int .u64 q2, .int .u64 q3] 24) = w4 at *
      generalize wr.heap.size = gc at *
      clear hW1 e0 e1 e2 e3
      obtain ⟨z0, z1, z2, z3⟩ := Cs.at4 HST.out 0 rfl
      have HM := Lib.hid HST.out.get2
      have hmx : m < 20000000 := by omega
      refine Cp.shareE (P := ?PSh) (A := fun _ _ W => St w W [aMap 24 3 gm (m + 1) (M.put kl (.lit (.int .i64 cv))), aCel gc 24 #[.int .u64 q0, .int .u64 q1, .int .u64 q2, .int .u64 q3], aOwn 24 4 (.slice (some ⟨g, 0, none⟩) all.length c) (all.map Cs.clV)]) (fun REST => ?h3) ?h4
      case h3 =>
        refine wp_region_held_drew (S := (fun w' => w'.cell? ⟨gc, 0, none⟩ = some (.int .u64 q0) ∧ w'.cell? ⟨gc, 1, none⟩ = some (.int .u64 q1) ∧ w'.cell? ⟨gc, 2, none⟩ = some (.int .u64 q2) ∧ w'.cell? ⟨gc, 3, none⟩ = some (.int .u64 q3))) (by kernel_rfl) ?_ (fun hHeld => ?_)
        · (try dsimp only); (first | exact ⟨z0, z1, z2, z3⟩ | exact Cs.at4 HE.out 1 rfl | exact Cs.at4 HM2.out 1 rfl)

        refine wpAnyH_take (i := 0) (v := ?_) rfl (by kernel_rfl) (by kernel_rfl) (by kernel_rfl) (fun _ _ _ h => h) (Or.inl ⟨by rfl, ?_⟩) (by assumption) ?_
        rotate_left; focus (intro w hSw; (try dsimp only at hSw); go_simp; try (with_reducible rfl); done)
        try simp only [List.getElem_toArray, List.getElem_cons_zero, List.getElem_cons_succ, Act.put, List.setIfInBounds_toArray, List.set_cons_zero, List.set_cons_succ]
        refine wpAnyH_take (i := 1) (v := ?_) rfl (by kernel_rfl) (by kernel_rfl) (by kernel_rfl) (fun _ _ _ h => h) (Or.inl ⟨by rfl, ?_⟩) (by assumption) ?_
        rotate_left; focus (intro w hSw; (try dsimp only at hSw); go_simp; try (with_reducible rfl); done)
        try simp only [List.getElem_toArray, List.getElem_cons_zero, List.getElem_cons_succ, Act.put, List.setIfInBounds_toArray, List.set_cons_zero, List.set_cons_succ]
        refine wpAnyH_ready (rs := [2, 4]) (by kernel_rfl) (by simp) ?_
        refine AllReadyH.cons rfl (fun K hK => ?_) (AllReadyH.cons rfl (fun K hK => ?_) (AllReadyH.nil))
        · skip
          (first | (refine St.stepLook rfl (.tmp 24) (.tmp 25) rfl Cp.akey.law Tryd.underlying72 Tryd.underlying3 Cp.zeroE HM.out.mapOwn rfl (.agg #[.int .u64 q0, .int .u64 q1, .int .u64 q2, .int .u64 q3]) rfl HKL.out cnt HAT.out ?_) | (refine St.stepLook2 rfl (.tmp 24) (.tmp 25) rfl Cp.akey.law Tryd.underlying72 Tryd.underlying3 Cp.zeroE HE.out rfl (.agg #[.int .u64 q0, .int .u64 q1, .int .u64 q2, .int .u64 q3]) rfl HKL.out cnt HAT.out ?_) | (refine St.stepEntry rfl (.tmp 24) (.tmp 25) rfl Cp.akey.law Tryd.underlying72 Tryd.underlying3 Cp.zeroE HM.out (by unfold maxLen; omega) rfl (.agg #[.int .u64 q0, .int .u64 q1, .int .u64 q2, .int .u64 q3]) rfl HKL.out ?_; intro v0 st w8 hst8; have HE := Lib.hid hst8; clear hst8) | (refine St.stepEntryStore rfl (.tmp 24) (.tmp 29) (.tmp 27) rfl HE.out rfl rfl (.int .i64 cv) (by first | rfl | (simp [Act.eval]; done) | (simp [Act.eval]; omega)) (.lit (.int .i64 cv)) [] (plainElem_int Tryd.underlying3 hcw.out) ?_; intro w8 hst8; have HM2 := Lib.hid hst8; clear hst8))
          refine hK.out _ _ ?_ (fun hHeld => ?_)
          · (try dsimp only); (first | exact ⟨z0, z1, z2, z3⟩ | exact Cs.at4 HE.out 1 rfl | exact Cs.at4 HM2.out 1 rfl)
          clear hK K
          try simp only [List.getElem_toArray, List.getElem_cons_zero, List.getElem_cons_succ, Act.put, List.setIfInBounds_toArray, List.set_cons_zero, List.set_cons_succ]
          refine wpAnyH_take (i := 3) (v := ?_) rfl (by kernel_rfl) (by kernel_rfl) (by kernel_rfl) (fun _ _ _ h => h) (Or.inl ⟨by rfl, ?_⟩) (by assumption) ?_
          rotate_left; focus (intro w hSw; (try dsimp only at hSw); go_simp; try (with_reducible rfl); done)
          try simp only [List.getElem_toArray, List.getElem_cons_zero, List.getElem_cons_succ, Act.put, List.setIfInBounds_toArray, List.set_cons_zero, List.set_cons_succ]
          refine wpAnyH_ready (rs := [4]) (by kernel_rfl) (by simp) ?_
          refine AllReadyH.cons rfl (fun K hK => ?_) (AllReadyH.nil)
          (first | (refine St.stepLook rfl (.tmp 24) (.tmp 25) rfl Cp.akey.law Tryd.underlying72 Tryd.underlying3 Cp.zeroE HM.out.mapOwn rfl (.agg #[.int .u64 q0, .int .u64 q1, .int .u64 q2, .int .u64 q3]) rfl HKL.out cnt HAT.out ?_) | (refine St.stepLook2 rfl (.tmp 24) (.tmp 25) rfl Cp.akey.law Tryd.underlying72 Tryd.underlying3 Cp.zeroE HE.out rfl (.agg #[.int .u64 q0, .int .u64 q1, .int .u64 q2, .int .u64 q3]) rfl HKL.out cnt HAT.out ?_) | (refine St.stepEntry rfl (.tmp 24) (.tmp 25) rfl Cp.akey.law Tryd.underlying72 Tryd.underlying3 Cp.zeroE HM.out (by unfold maxLen; omega) rfl (.agg #[.int .u64 q0, .int .u64 q1, .int .u64 q2, .int .u64 q3]) rfl HKL.out ?_; intro v0 st w8 hst8; have HE := Lib.hid hst8; clear hst8) | (refine St.stepEntryStore rfl (.tmp 24) (.tmp 29) (.tmp 27) rfl HE.out rfl rfl (.int .i64 cv) (by first | rfl | (simp [Act.eval]; done) | (simp [Act.eval]; omega)) (.lit (.int .i64 cv)) [] (plainElem_int Tryd.underlying3 hcw.out) ?_; intro w8 hst8; have HM2 := Lib.hid hst8; clear hst8))
          refine hK.out _ _ ?_ (fun hHeld => ?_)
          · (try dsimp only); (first | exact ⟨z0, z1, z2, z3⟩ | exact Cs.at4 HE.out 1 rfl | exact Cs.at4 HM2.out 1 rfl)
          clear hK K
          try simp only [List.getElem_toArray, List.getElem_cons_zero, List.getElem_cons_succ, Act.put, List.setIfInBounds_toArray, List.set_cons_zero, List.set_cons_succ]
          refine wpAnyH_take (i := 5) (v := ?_) rfl (by kernel_rfl) (by kernel_rfl) (by kernel_rfl) (fun _ _ _ h => h) (Or.inl ⟨by rfl, ?_⟩) (by assumption) ?_
          rotate_left; focus (intro w hSw; (try dsimp only at hSw); go_simp; try (with_reducible rfl); done)
          try simp only [List.getElem_toArray, List.getElem_cons_zero, List.getElem_cons_succ, Act.put, List.setIfInBounds_toArray, List.set_cons_zero, List.set_cons_succ]
          refine wpAnyH_ready (rs := [6]) (by kernel_rfl) (by simp) ?_
          refine AllReadyH.cons rfl (fun K hK => ?_) AllReadyH.nil
          (first | (refine St.stepLook rfl (.tmp 24) (.tmp 25) rfl Cp.akey.law Tryd.underlying72 Tryd.underlying3 Cp.zeroE HM.out.mapOwn rfl (.agg #[.int .u64 q0, .int .u64 q1, .int .u64 q2, .int .u64 q3]) rfl HKL.out cnt HAT.out ?_) | (refine St.stepLook2 rfl (.tmp 24) (.tmp 25) rfl Cp.akey.law Tryd.underlying72 Tryd.underlying3 Cp.zeroE HE.out rfl (.agg #[.int .u64 q0, .int .u64 q1, .int .u64 q2, .int .u64 q3]) rfl HKL.out cnt HAT.out ?_) | (refine St.stepEntry rfl (.tmp 24) (.tmp 25) rfl Cp.akey.law Tryd.underlying72 Tryd.underlying3 Cp.zeroE HM.out (by unfold maxLen; omega) rfl (.agg #[.int .u64 q0, .int .u64 q1, .int .u64 q2, .int .u64 q3]) rfl HKL.out ?_; intro v0 st w8 hst8; have HE := Lib.hid hst8; clear hst8) | (refine St.stepEntryStore rfl (.tmp 24) (.tmp 29) (.tmp 27) rfl HE.out rfl rfl (.int .i64 cv) (by first | rfl | (simp [Act.eval]; done) | (simp [Act.eval]; omega)) (.lit (.int .i64 cv)) [] (plainElem_int Tryd.underlying3 hcw.out) ?_; intro w8 hst8; have HM2 := Lib.hid hst8; clear hst8))
          refine hK.out _ _ ?_ (fun hHeld => ?_)
          · (try dsimp only); (first | exact ⟨z0, z1, z2, z3⟩ | exact Cs.at4 HE.out 1 rfl | exact Cs.at4 HM2.out 1 rfl)
          clear hK K
          try simp only [List.getElem_toArray, List.getElem_cons_zero, List.getElem_cons_succ, Act.put, List.setIfInBounds_toArray, List.set_cons_zero, List.set_cons_succ]
          refine wpAnyH_done (by kernel_rfl) ?_ _
          exact REST v0 st _ HM2.out
        · skip
          (first | (refine St.stepLook rfl (.tmp 24) (.tmp 25) rfl Cp.akey.law Tryd.underlying72 Tryd.underlying3 Cp.zeroE HM.out.mapOwn rfl (.agg #[.int .u64 q0, .int .u64 q1, .int .u64 q2, .int .u64 q3]) rfl HKL.out cnt HAT.out ?_) | (refine St.stepLook2 rfl (.tmp 24) (.tmp 25) rfl Cp.akey.law Tryd.underlying72 Tryd.underlying3 Cp.zeroE HE.out rfl (.agg #[.int .u64 q0, .int .u64 q1, .int .u64 q2, .int .u64 q3]) rfl HKL.out cnt HAT.out ?_) | (refine St.stepEntry rfl (.tmp 24) (.tmp 25) rfl Cp.akey.law Tryd.underlying72 Tryd.underlying3 Cp.zeroE HM.out (by unfold maxLen; omega) rfl (.agg #[.int .u64 q0, .int .u64 q1, .int .u64 q2, .int .u64 q3]) rfl HKL.out ?_; intro v0 st w8 hst8; have HE := Lib.hid hst8; clear hst8) | (refine St.stepEntryStore rfl (.tmp 24) (.tmp 29) (.tmp 27) rfl HE.out rfl rfl (.int .i64 cv) (by first | rfl | (simp [Act.eval]; done) | (simp [Act.eval]; omega)) (.lit (.int .i64 cv)) [] (plainElem_int Tryd.underlying3 hcw.out) ?_; intro w8 hst8; have HM2 := Lib.hid hst8; clear hst8))
          refine hK.out _ _ ?_ (fun hHeld => ?_)
          · (try dsimp only); (first | exact ⟨z0, z1, z2, z3⟩ | exact Cs.at4 HE.out 1 rfl | exact Cs.at4 HM2.out 1 rfl)
          clear hK K
          try simp only [List.getElem_toArray, List.getElem_cons_zero, List.getElem_cons_succ, Act.put, List.setIfInBounds_toArray, List.set_cons_zero, List.set_cons_succ]
          refine wpAnyH_take (i := 5) (v := ?_) rfl (by kernel_rfl) (by kernel_rfl) (by kernel_rfl) (fun _ _ _ h => h) (Or.inl ⟨by rfl, ?_⟩) (by assumption) ?_
          rotate_left; focus (intro w hSw; (try dsimp only at hSw); go_simp; try (with_reducible rfl); done)
          try simp only [List.getElem_toArray, List.getElem_cons_zero, List.getElem_cons_succ, Act.put, List.setIfInBounds_toArray, List.set_cons_zero, List.set_cons_succ]
          refine wpAnyH_ready (rs := [2]) (by kernel_rfl) (by simp) ?_
          refine AllReadyH.cons rfl (fun K hK => ?_) (AllReadyH.nil)
          (first | (refine St.stepLook rfl (.tmp 24) (.tmp 25) rfl Cp.akey.law Tryd.underlying72 Tryd.underlying3 Cp.zeroE HM.out.mapOwn rfl (.agg #[.int .u64 q0, .int .u64 q1, .int .u64 q2, .int .u64 q3]) rfl HKL.out cnt HAT.out ?_) | (refine St.stepLook2 rfl (.tmp 24) (.tmp 25) rfl Cp.akey.law Tryd.underlying72 Tryd.underlying3 Cp.zeroE HE.out rfl (.agg #[.int .u64 q0, .int .u64 q1, .int .u64 q2, .int .u64 q3]) rfl HKL.out cnt HAT.out ?_) | (refine St.stepEntry rfl (.tmp 24) (.tmp 25) rfl Cp.akey.law Tryd.underlying72 Tryd.underlying3 Cp.zeroE HM.out (by unfold maxLen; omega) rfl (.agg #[.int .u64 q0, .int .u64 q1, .int .u64 q2, .int .u64 q3]) rfl HKL.out ?_; intro v0 st w8 hst8; have HE := Lib.hid hst8; clear hst8) | (refine St.stepEntryStore rfl (.tmp 24) (.tmp 29) (.tmp 27) rfl HE.out rfl rfl (.int .i64 cv) (by first | rfl | (simp [Act.eval]; done) | (simp [Act.eval]; omega)) (.lit (.int .i64 cv)) [] (plainElem_int Tryd.underlying3 hcw.out) ?_; intro w8 hst8; have HM2 := Lib.hid hst8; clear hst8))
          refine hK.out _ _ ?_ (fun hHeld => ?_)
          · (try dsimp only); (first | exact ⟨z0, z1, z2, z3⟩ | exact Cs.at4 HE.out 1 rfl | exact Cs.at4 HM2.out 1 rfl)
          clear hK K
          try simp only [List.getElem_toArray, List.getElem_cons_zero, List.getElem_cons_succ, Act.put, List.setIfInBounds_toArray, List.set_cons_zero, List.set_cons_succ]
          refine wpAnyH_take (i := 3) (v := ?_) rfl (by kernel_rfl) (by kernel_rfl) (by kernel_rfl) (fun _ _ _ h => h) (Or.inl ⟨by rfl, ?_⟩) (by assumption) ?_
          rotate_left; focus (intro w hSw; (try dsimp only at hSw); go_simp; try (with_reducible rfl); done)
          try simp only [List.getElem_toArray, List.getElem_cons_zero, List.getElem_cons_succ, Act.put, List.setIfInBounds_toArray, List.set_cons_zero, List.set_cons_succ]
          refine wpAnyH_ready (rs := [6]) (by kernel_rfl) (by simp) ?_
          refine AllReadyH.cons rfl (fun K hK => ?_) AllReadyH.nil
          (first | (refine St.stepLook rfl (.tmp 24) (.tmp 25) rfl Cp.akey.law Tryd.underlying72 Tryd.underlying3 Cp.zeroE HM.out.mapOwn rfl (.agg #[.int .u64 q0, .int .u64 q1, .int .u64 q2, .int .u64 q3]) rfl HKL.out cnt HAT.out ?_) | (refine St.stepLook2 rfl (.tmp 24) (.tmp 25) rfl Cp.akey.law Tryd.underlying72 Tryd.underlying3 Cp.zeroE HE.out rfl (.agg #[.int .u64 q0, .int .u64 q1, .int .u64 q2, .int .u64 q3]) rfl HKL.out cnt HAT.out ?_) | (refine St.stepEntry rfl (.tmp 24) (.tmp 25) rfl Cp.akey.law Tryd.underlying72 Tryd.underlying3 Cp.zeroE HM.out (by unfold maxLen; omega) rfl (.agg #[.int .u64 q0, .int .u64 q1, .int .u64 q2, .int .u64 q3]) rfl HKL.out ?_; intro v0 st w8 hst8; have HE := Lib.hid hst8; clear hst8) | (refine St.stepEntryStore rfl (.tmp 24) (.tmp 29) (.tmp 27) rfl HE.out rfl rfl (.int .i64 cv) (by first | rfl | (simp [Act.eval]; done) | (simp [Act.eval]; omega)) (.lit (.int .i64 cv)) [] (plainElem_int Tryd.underlying3 hcw.out) ?_; intro w8 hst8; have HM2 := Lib.hid hst8; clear hst8))
          refine hK.out _ _ ?_ (fun hHeld => ?_)
          · (try dsimp only); (first | exact ⟨z0, z1, z2, z3⟩ | exact Cs.at4 HE.out 1 rfl | exact Cs.at4 HM2.out 1 rfl)
          clear hK K
          try simp only [List.getElem_toArray, List.getElem_cons_zero, List.getElem_cons_succ, Act.put, List.setIfInBounds_toArray, List.set_cons_zero, List.set_cons_succ]
          refine wpAnyH_done (by kernel_rfl) ?_ _
          exact REST v0 st _ HM2.out
      intro v0 st w9 hst
      have HM2 := Lib.hid hst
      clear HST HM z0 z1 z2 z3 hst
      obtain ⟨z0, z1, z2, z3⟩ := Cs.at4 HM2.out 1 rfl
      have HOWN := Lib.hid (HM2.out.mapOwn)
      by_cases h0 : 0 < cnt
      · have hgt : 1 < cv := by omega
        have HIN := Lib.hid (HSEEN.out h0)
        go_wp2_with ((at_lookup; refine wpList_lookup_own_int _ rfl _ _ 72 rfl 24 3 .i64 (Maps.Keyed.of_law Cp.akey.law) Tryd.underlying72 Tryd.underlying3 (Cp.zeroE _) gm (m + 1) _ rfl HOWN.out (.agg #[.int .u64 q0, .int .u64 q1, .int .u64 q2, .int .u64 q3]) kl rfl HKL.out ?_; intro cx hax hwx; have hcx := (by have h9 := hax.symm.trans HPUT.out; simp only [DataW.lit.injEq, Lit.int.injEq, true_and] at h9; exact h9.symm); subst hcx; clear hax hwx))
        go_roundg (L.length - (i + 1))
        case measure => have := HGZ.out; omega
        case rel => exact ⟨i + 1, g, c, m + 1, all, _, by omega, rfl, by go_num, rfl, by omega, by rw [HTK.out]; exact HIN, by rw [HTK.out]; exact HNEW, HM2.out.pick [0, 2] 3 rfl rfl⟩
      · have hgt : ¬ 1 < cv := by omega
        go_wp2_with ((at_lookup; refine wpList_lookup_own_int _ rfl _ _ 72 rfl 24 3 .i64 (Maps.Keyed.of_law Cp.akey.law) Tryd.underlying72 Tryd.underlying3 (Cp.zeroE _) gm (m + 1) _ rfl HOWN.out (.agg #[.int .u64 q0, .int .u64 q1, .int .u64 q2, .int .u64 q3]) kl rfl HKL.out ?_; intro cx hax hwx; have hcx := (by have h9 := hax.symm.trans HPUT.out; simp only [DataW.lit.injEq, Lit.int.injEq, true_and] at h9; exact h9.symm); subst hcx; clear hax hwx))
        have HQK := Lib.hid (show Dm.Ok4 [q0, q1, q2, q3] from HOKC.out)
        have HC1 := HCUT.out
        have HTKI := Lib.hid (show Cp.Inv (L.take (i + 1)) (all.flatMap (Cp.cut [q0, q1, q2, q3])) by rw [HTK.out]; exact HC1)
        have HTKM := Lib.hid (show Cp.Counts (M.put kl (.lit (.int .i64 cv))) (L.take (i + 1)) by rw [HTK.out]; exact HNEW.out)
        have hal := HAL.out
        clear HSEEN HCUT HC1 HTK HNEW h0 hgt HOWN z0 z1 z2 z3 hcvI hcnI hwr hcw HKL HAT HPUT hcnt HOKC
        generalize (M.put kl (.lit (.int .i64 cv))) = M2 at *
        go_loopg [7, 36] all.length (fun gy v7 v36 wr2 => ∃ (j : Nat) (vn : Value), j ≤ all.length ∧ gy = all.length - j ∧ v36 = .int .i64 j ∧ vn = v7 ∧ St w wr2 [aOwn 24 4 vn (((all.take j).flatMap (Cp.cut [q0, q1, q2, q3])).map Cs.clV), aMap 24 3 gm (m + 1) M2, aCel gc 24 #[.int .u64 q0, .int .u64 q1, .int .u64 q2, .int .u64 q3], aOwn 24 4 (.slice (some ⟨g, 0, none⟩) all.length c) (all.map Cs.clV)])
        case atStart => exact ⟨0, _, by omega, by omega, rfl, rfl, HM2.out.nilOwn _ _⟩
        case round =>
          clear HM2
          obtain ⟨j, vn, hj, hgy, rfl, rfl, hst⟩ := hrel
          have HGY := Lib.hid hgy
          clear hgy
          by_cases hjl : j < all.length
          · have hjI : (j : Int) < all.length := by omega
            obtain ⟨p0, p1, p2, p3, hp, x0, x1, x2, x3⟩ := (Cp.own_at' HAOK.out hal HANE.out (hst.nth 3 rfl).own).four hjl
            simp only [Nat.zero_add] at x0 x1 x2 x3
            have hpk : Dm.Ok4 (all.getD j []) := HAOK.out _ (by rw [List.getD_eq_getElem?_getD, List.getElem?_eq_getElem hjl]; exact List.getElem_mem hjl)
            have hnt : (all.take (j + 1)).flatMap (Cp.cut [q0, q1, q2, q3]) = (all.take j).flatMap (Cp.cut [q0, q1, q2, q3]) ++ (Cp.one (Cp.ins (all.getD j []) [q0, q1, q2, q3]) ++ Cp.one (Cp.outs (all.getD j []) [q0, q1, q2, q3])) := by
              rw [Cp.take_succ hjl, List.flatMap_append, List.flatMap_singleton]; rfl
            have hln := Cp.cut_len [q0, q1, q2, q3] (all.take j)
            rw [List.length_take] at hln
            have hln2 : (((all.take j).flatMap (Cp.cut [q0, q1, q2, q3])).map Cs.clV).length ≤ 512 := by rw [List.length_map]; omega
            rw [hp] at hpk hnt
            obtain ⟨i0, i1, i2, i3, hI⟩ := Cs.okFour (Cs.ok_of (fun x => Dm.mem [p0, p1, p2, p3] x && Dm.mem [q0, q1, q2, q3] x))
            obtain ⟨o0, o1, o2, o3, hO⟩ := Cs.okFour (Cs.ok_of (fun x => Dm.mem [p0, p1, p2, p3] x && !Dm.mem [q0, q1, q2, q3] x))
            obtain ⟨n0, n1, n2, n3, hN⟩ := Cs.okFour (Cp.ok_inv HQK.out)
            have HC1 := Lib.hid (fun W => clMeet_any [p0, p1, p2, p3] [q0, q1, q2, q3] hpk HQK.out W)
            have HC2 := Lib.hid (fun W => clNot_any [q0, q1, q2, q3] HQK.out W)
            have HC3 := Lib.hid (fun W => clMeet_any [p0, p1, p2, p3] (Cs.inv [q0, q1, q2, q3]) hpk (Cp.ok_inv HQK.out) W)
            rw [Cp.meet_ins hpk HQK.out, show Cp.ins [p0, p1, p2, p3] [q0, q1, q2, q3] = [i0, i1, i2, i3] from hI, show Cs.clV [p0, p1, p2, p3] = .agg #[.int .u64 p0, .int .u64 p1, .int .u64 p2, .int .u64 p3] from rfl, show Cs.clV [q0, q1, q2, q3] = .agg #[.int .u64 q0, .int .u64 q1, .int .u64 q2, .int .u64 q3] from rfl, show Cs.clV [i0, i1, i2, i3] = .agg #[.int .u64 i0, .int .u64 i1, .int .u64 i2, .int .u64 i3] from rfl] at HC1
            rw [hN, show Cs.clV [q0, q1, q2, q3] = .agg #[.int .u64 q0, .int .u64 q1, .int .u64 q2, .int .u64 q3] from rfl, show Cs.clV [n0, n1, n2, n3] = .agg #[.int .u64 n0, .int .u64 n1, .int .u64 n2, .int .u64 n3] from rfl] at HC2
            rw [Cp.meet_outs hpk HQK.out, show Cp.outs [p0, p1, p2, p3] [q0, q1, q2, q3] = [o0, o1, o2, o3] from hO, hN, show Cs.clV [p0, p1, p2, p3] = .agg #[.int .u64 p0, .int .u64 p1, .int .u64 p2, .int .u64 p3] from rfl, show Cs.clV [n0, n1, n2, n3] = .agg #[.int .u64 n0, .int .u64 n1, .int .u64 n2, .int .u64 n3] from rfl, show Cs.clV [o0, o1, o2, o3] = .agg #[.int .u64 o0, .int .u64 o1, .int .u64 o2, .int .u64 o3] from rfl] at HC3
            rw [show Cp.ins [p0, p1, p2, p3] [q0, q1, q2, q3] = [i0, i1, i2, i3] from hI, show Cp.outs [p0, p1, p2, p3] [q0, q1, q2, q3] = [o0, o1, o2, o3] from hO] at hnt
            have HNT := Lib.hid (show ((all.take (j + 1)).flatMap (Cp.cut [q0, q1, q2, q3])).map Cs.clV = ((all.take j).flatMap (Cp.cut [q0, q1, q2, q3])).map Cs.clV ++ ((Cp.one [i0, i1, i2, i3]).map Cs.clV ++ (Cp.one [o0, o1, o2, o3]).map Cs.clV) by rw [hnt, List.map_append, List.map_append])
            clear hnt hI hO hN hpk hp hln
            generalize ((all.take j).flatMap (Cp.cut [q0, q1, q2, q3])).map Cs.clV = NX at *
            have HST := Lib.hid (hst.alloc #[.int .u64 p0, .int .u64 p1, .int .u64 p2, .int .u64 p3] 24).drew
            clear hst
            go_wp2_with (fail)
            generalize hW2 : wr.alloc (.cells #[.int .u64 p0, .int .u64 p1, .int .u64 p2, .int .u64 p3] 24) = w5 at *
            generalize wr.heap.size = gp at *
            clear hW2 x0 x1 x2 x3
            obtain ⟨x0, x1, x2, x3⟩ := Cs.at4 HST.out 0 rfl
            obtain ⟨z0, z1, z2, z3⟩ := Cs.at4 HST.out 3 rfl
            have HN := Lib.hid (St.init w5.drew)
            refine Cp.share2 (P := ?PSh2) (A := fun gI gO W => St w W [aCel gO 24 #[.int .u64 o0, .int .u64 o1, .int .u64 o2, .int .u64 o3], aCel gI 24 #[.int .u64 i0, .int .u64 i1, .int .u64 i2, .int .u64 i3], aCel gp 24 #[.int .u64 p0, .int .u64 p1, .int .u64 p2, .int .u64 p3], aOwn 24 4 vn NX, aMap 24 3 gm (m + 1) M2, aCel gc 24 #[.int .u64 q0, .int .u64 q1, .int .u64 q2, .int .u64 q3], aOwn 24 4 (.slice (some ⟨g, 0, none⟩) all.length c) (all.map Cs.clV)]) (fun REST => ?h5) ?h6
            case h5 =>
              refine wp_region_held_drew (S := (fun w' => w'.cell? ⟨gp, 0, none⟩ = some (.int .u64 p0) ∧ w'.cell? ⟨gp, 1, none⟩ = some (.int .u64 p1) ∧ w'.cell? ⟨gp, 2, none⟩ = some (.int .u64 p2) ∧ w'.cell? ⟨gp, 3, none⟩ = some (.int .u64 p3) ∧ w'.cell? ⟨gc, 0, none⟩ = some (.int .u64 q0) ∧ w'.cell? ⟨gc, 1, none⟩ = some (.int .u64 q1) ∧ w'.cell? ⟨gc, 2, none⟩ = some (.int .u64 q2) ∧ w'.cell? ⟨gc, 3, none⟩ = some (.int .u64 q3))) (by kernel_rfl) ?_ (fun hHeld => ?_)
              · (try dsimp only); (exact ⟨bkeep HN.out.bel x0, bkeep HN.out.bel x1, bkeep HN.out.bel x2, bkeep HN.out.bel x3, bkeep HN.out.bel z0, bkeep HN.out.bel z1, bkeep HN.out.bel z2, bkeep HN.out.bel z3⟩)

              refine wpAnyH_take (i := 0) (v := ?_) rfl (by kernel_rfl) (by kernel_rfl) (by kernel_rfl) (fun _ _ _ h => h) (Or.inl ⟨by rfl, ?_⟩) (by assumption) ?_
              rotate_left; focus (intro w hSw; (try dsimp only at hSw); go_simp; try (with_reducible rfl); done)
              try simp only [List.getElem_toArray, List.getElem_cons_zero, List.getElem_cons_succ, Act.put, List.setIfInBounds_toArray, List.set_cons_zero, List.set_cons_succ]
              refine wpAnyH_take (i := 1) (v := ?_) rfl (by kernel_rfl) (by kernel_rfl) (by kernel_rfl) (fun _ _ _ h => h) (Or.inl ⟨by rfl, ?_⟩) (by assumption) ?_
              rotate_left; focus (intro w hSw; (try dsimp only at hSw); go_simp; try (with_reducible rfl); done)
              try simp only [List.getElem_toArray, List.getElem_cons_zero, List.getElem_cons_succ, Act.put, List.setIfInBounds_toArray, List.set_cons_zero, List.set_cons_succ]
              refine wpAnyH_take (i := 3) (v := ?_) rfl (by kernel_rfl) (by kernel_rfl) (by kernel_rfl) (fun _ _ _ h => h) (Or.inl ⟨by rfl, ?_⟩) (by assumption) ?_
              rotate_left; focus (intro w hSw; (try dsimp only at hSw); go_simp; try (with_reducible rfl); done)
              try simp only [List.getElem_toArray, List.getElem_cons_zero, List.getElem_cons_succ, Act.put, List.setIfInBounds_toArray, List.set_cons_zero, List.set_cons_succ]
              refine wpAnyH_take (i := 4) (v := ?_) rfl (by kernel_rfl) (by kernel_rfl) (by kernel_rfl) (fun _ _ _ h => h) (Or.inl ⟨by rfl, ?_⟩) (by assumption) ?_
              rotate_left; focus (intro w hSw; (try dsimp only at hSw); go_simp; try (with_reducible rfl); done)
              try simp only [List.getElem_toArray, List.getElem_cons_zero, List.getElem_cons_succ, Act.put, List.setIfInBounds_toArray, List.set_cons_zero, List.set_cons_succ]
              refine wpAnyH_ready (rs := [2, 7, 8]) (by kernel_rfl) (by simp) ?_
              refine AllReadyH.cons rfl (fun K hK => ?_) (AllReadyH.cons rfl (fun K hK => ?_) (AllReadyH.cons rfl (fun K hK => ?_) (AllReadyH.nil)))
              · skip
                go_simp
                (first | (go_at_call 16; (first | (with_reducible refine (HC1.out _).mono ?_) | (with_reducible refine (HC3.out _).mono ?_)); rintro e w8 ⟨rfl, hb8⟩; have HN := Lib.hid (HN.out.call hb8); clear hb8) | (go_at_call 18; with_reducible refine (HC2.out _).mono ?_; rintro e w8 ⟨rfl, hb8⟩; have HN := Lib.hid (HN.out.call hb8); clear hb8) | (refine Cp.stepAlloc (T := 24) (cs := #[.int .u64 0, .int .u64 0, .int .u64 0, .int .u64 0]) rfl rfl (by intro u; kernel_rfl) HN.out ?_; intro g8 w8 hst8; have HN := Lib.hid hst8; clear hst8) | (refine St.stepRow rfl 24 (.tmp 10) (.tmp 42) rfl _ #[.int .u64 i0, .int .u64 i1, .int .u64 i2, .int .u64 i3] rfl rfl HN.out Cs.clInfo rfl (by simp [Value.oneCell']) ?_; intro w8 hst8; have HN := Lib.hid hst8; clear hst8) | (refine St.stepRow rfl 24 (.tmp 10) (.tmp 42) rfl _ #[.int .u64 i0, .int .u64 i1, .int .u64 i2, .int .u64 i3] rfl rfl HN.out.get2 Cs.clInfo rfl (by simp [Value.oneCell']) ?_; intro w8 hst8; have HN := Lib.hid hst8; clear hst8) | (refine St.stepRow rfl 24 (.tmp 11) (.tmp 46) rfl _ #[.int .u64 o0, .int .u64 o1, .int .u64 o2, .int .u64 o3] rfl rfl HN.out.get2 Cs.clInfo rfl (by simp [Value.oneCell']) ?_; intro w8 hst8; have HN := Lib.hid hst8; clear hst8))
                refine hK.out _ _ ?_ (fun hHeld => ?_)
                · (try dsimp only); (exact ⟨bkeep HN.out.bel x0, bkeep HN.out.bel x1, bkeep HN.out.bel x2, bkeep HN.out.bel x3, bkeep HN.out.bel z0, bkeep HN.out.bel z1, bkeep HN.out.bel z2, bkeep HN.out.bel z3⟩)
                clear hK K
                try simp only [List.getElem_toArray, List.getElem_cons_zero, List.getElem_cons_succ, Act.put, List.setIfInBounds_toArray, List.set_cons_zero, List.set_cons_succ]
                refine wpAnyH_ready (rs := [5, 7, 8]) (by kernel_rfl) (by simp) ?_
                refine AllReadyH.cons rfl (fun K hK => ?_) (AllReadyH.cons rfl (fun K hK => ?_) (AllReadyH.cons rfl (fun K hK => ?_) (AllReadyH.nil)))
                · skip
                  go_simp
                  (first | (go_at_call 16; (first | (with_reducible refine (HC1.out _).mono ?_) | (with_reducible refine (HC3.out _).mono ?_)); rintro e w8 ⟨rfl, hb8⟩; have HN := Lib.hid (HN.out.call hb8); clear hb8) | (go_at_call 18; with_reducible refine (HC2.out _).mono ?_; rintro e w8 ⟨rfl, hb8⟩; have HN := Lib.hid (HN.out.call hb8); clear hb8) | (refine Cp.stepAlloc (T := 24) (cs := #[.int .u64 0, .int .u64 0, .int .u64 0, .int .u64 0]) rfl rfl (by intro u; kernel_rfl) HN.out ?_; intro g8 w8 hst8; have HN := Lib.hid hst8; clear hst8) | (refine St.stepRow rfl 24 (.tmp 10) (.tmp 42) rfl _ #[.int .u64 i0, .int .u64 i1, .int .u64 i2, .int .u64 i3] rfl rfl HN.out Cs.clInfo rfl (by simp [Value.oneCell']) ?_; intro w8 hst8; have HN := Lib.hid hst8; clear hst8) | (refine St.stepRow rfl 24 (.tmp 10) (.tmp 42) rfl _ #[.int .u64 i0, .int .u64 i1, .int .u64 i2, .int .u64 i3] rfl rfl HN.out.get2 Cs.clInfo rfl (by simp [Value.oneCell']) ?_; intro w8 hst8; have HN := Lib.hid hst8; clear hst8) | (refine St.stepRow rfl 24 (.tmp 11) (.tmp 46) rfl _ #[.int .u64 o0, .int .u64 o1, .int .u64 o2, .int .u64 o3] rfl rfl HN.out.get2 Cs.clInfo rfl (by simp [Value.oneCell']) ?_; intro w8 hst8; have HN := Lib.hid hst8; clear hst8))
                  refine hK.out _ _ ?_ (fun hHeld => ?_)
                  · (try dsimp only); (exact ⟨bkeep HN.out.bel x0, bkeep HN.out.bel x1, bkeep HN.out.bel x2, bkeep HN.out.bel x3, bkeep HN.out.bel z0, bkeep HN.out.bel z1, bkeep HN.out.bel z2, bkeep HN.out.bel z3⟩)
                  clear hK K
                  try simp only [List.getElem_toArray, List.getElem_cons_zero, List.getElem_cons_succ, Act.put, List.setIfInBounds_toArray, List.set_cons_zero, List.set_cons_succ]
                  refine wpAnyH_ready (rs := [6, 7, 8]) (by kernel_rfl) (by simp) ?_
                  refine AllReadyH.cons rfl (fun K hK => ?_) (AllReadyH.cons rfl (fun K hK => ?_) (AllReadyH.cons rfl (fun K hK => ?_) (AllReadyH.nil)))
                  · skip
                    go_simp
                    (first | (go_at_call 16; (first | (with_reducible refine (HC1.out _).mono ?_) | (with_reducible refine (HC3.out _).mono ?_)); rintro e w8 ⟨rfl, hb8⟩; have HN := Lib.hid (HN.out.call hb8); clear hb8) | (go_at_call 18; with_reducible refine (HC2.out _).mono ?_; rintro e w8 ⟨rfl, hb8⟩; have HN := Lib.hid (HN.out.call hb8); clear hb8) | (refine Cp.stepAlloc (T := 24) (cs := #[.int .u64 0, .int .u64 0, .int .u64 0, .int .u64 0]) rfl rfl (by intro u; kernel_rfl) HN.out ?_; intro g8 w8 hst8; have HN := Lib.hid hst8; clear hst8) | (refine St.stepRow rfl 24 (.tmp 10) (.tmp 42) rfl _ #[.int .u64 i0, .int .u64 i1, .int .u64 i2, .int .u64 i3] rfl rfl HN.out Cs.clInfo rfl (by simp [Value.oneCell']) ?_; intro w8 hst8; have HN := Lib.hid hst8; clear hst8) | (refine St.stepRow rfl 24 (.tmp 10) (.tmp 42) rfl _ #[.int .u64 i0, .int .u64 i1, .int .u64 i2, .int .u64 i3] rfl rfl HN.out.get2 Cs.clInfo rfl (by simp [Value.oneCell']) ?_; intro w8 hst8; have HN := Lib.hid hst8; clear hst8) | (refine St.stepRow rfl 24 (.tmp 11) (.tmp 46) rfl _ #[.int .u64 o0, .int .u64 o1, .int .u64 o2, .int .u64 o3] rfl rfl HN.out.get2 Cs.clInfo rfl (by simp [Value.oneCell']) ?_; intro w8 hst8; have HN := Lib.hid hst8; clear hst8))
                    refine hK.out _ _ ?_ (fun hHeld => ?_)
                    · (try dsimp only); (exact ⟨bkeep HN.out.bel x0, bkeep HN.out.bel x1, bkeep HN.out.bel x2, bkeep HN.out.bel x3, bkeep HN.out.bel z0, bkeep HN.out.bel z1, bkeep HN.out.bel z2, bkeep HN.out.bel z3⟩)
                    clear hK K
                    try simp only [List.getElem_toArray, List.getElem_cons_zero, List.getElem_cons_succ, Act.put, List.setIfInBounds_toArray, List.set_cons_zero, List.set_cons_succ]
                    refine wpAnyH_ready (rs := [7, 8]) (by kernel_rfl) (by simp) ?_
                    refine AllReadyH.cons rfl (fun K hK => ?_) (AllReadyH.cons rfl (fun K hK => ?_) (AllReadyH.nil))
                    · skip
                      (first | (go_at_call 16; (first | (with_reducible refine (HC1.out _).mono ?_) | (with_reducible refine (HC3.out _).mono ?_)); rintro e w8 ⟨rfl, hb8⟩; have HN := Lib.hid (HN.out.call hb8); clear hb8) | (go_at_call 18; with_reducible refine (HC2.out _).mono ?_; rintro e w8 ⟨rfl, hb8⟩; have HN := Lib.hid (HN.out.call hb8); clear hb8) | (refine Cp.stepAlloc (T := 24) (cs := #[.int .u64 0, .int .u64 0, .int .u64 0, .int .u64 0]) rfl rfl (by intro u; kernel_rfl) HN.out ?_; intro g8 w8 hst8; have HN := Lib.hid hst8; clear hst8) | (refine St.stepRow rfl 24 (.tmp 10) (.tmp 42) rfl _ #[.int .u64 i0, .int .u64 i1, .int .u64 i2, .int .u64 i3] rfl rfl HN.out Cs.clInfo rfl (by simp [Value.oneCell']) ?_; intro w8 hst8; have HN := Lib.hid hst8; clear hst8) | (refine St.stepRow rfl 24 (.tmp 10) (.tmp 42) rfl _ #[.int .u64 i0, .int .u64 i1, .int .u64 i2, .int .u64 i3] rfl rfl HN.out.get2 Cs.clInfo rfl (by simp [Value.oneCell']) ?_; intro w8 hst8; have HN := Lib.hid hst8; clear hst8) | (refine St.stepRow rfl 24 (.tmp 11) (.tmp 46) rfl _ #[.int .u64 o0, .int .u64 o1, .int .u64 o2, .int .u64 o3] rfl rfl HN.out.get2 Cs.clInfo rfl (by simp [Value.oneCell']) ?_; intro w8 hst8; have HN := Lib.hid hst8; clear hst8))
                      refine hK.out _ _ ?_ (fun hHeld => ?_)
                      · (try dsimp only); (exact ⟨bkeep HN.out.bel x0, bkeep HN.out.bel x1, bkeep HN.out.bel x2, bkeep HN.out.bel x3, bkeep HN.out.bel z0, bkeep HN.out.bel z1, bkeep HN.out.bel z2, bkeep HN.out.bel z3⟩)
                      clear hK K
                      try simp only [List.getElem_toArray, List.getElem_cons_zero, List.getElem_cons_succ, Act.put, List.setIfInBounds_toArray, List.set_cons_zero, List.set_cons_succ]
                      refine wpAnyH_ready (rs := [8]) (by kernel_rfl) (by simp) ?_
                      refine AllReadyH.cons rfl (fun K hK => ?_) (AllReadyH.nil)
                      (first | (go_at_call 16; (first | (with_reducible refine (HC1.out _).mono ?_) | (with_reducible refine (HC3.out _).mono ?_)); rintro e w8 ⟨rfl, hb8⟩; have HN := Lib.hid (HN.out.call hb8); clear hb8) | (go_at_call 18; with_reducible refine (HC2.out _).mono ?_; rintro e w8 ⟨rfl, hb8⟩; have HN := Lib.hid (HN.out.call hb8); clear hb8) | (refine Cp.stepAlloc (T := 24) (cs := #[.int .u64 0, .int .u64 0, .int .u64 0, .int .u64 0]) rfl rfl (by intro u; kernel_rfl) HN.out ?_; intro g8 w8 hst8; have HN := Lib.hid hst8; clear hst8) | (refine St.stepRow rfl 24 (.tmp 10) (.tmp 42) rfl _ #[.int .u64 i0, .int .u64 i1, .int .u64 i2, .int .u64 i3] rfl rfl HN.out Cs.clInfo rfl (by simp [Value.oneCell']) ?_; intro w8 hst8; have HN := Lib.hid hst8; clear hst8) | (refine St.stepRow rfl 24 (.tmp 10) (.tmp 42) rfl _ #[.int .u64 i0, .int .u64 i1, .int .u64 i2, .int .u64 i3] rfl rfl HN.out.get2 Cs.clInfo rfl (by simp [Value.oneCell']) ?_; intro w8 hst8; have HN := Lib.hid hst8; clear hst8) | (refine St.stepRow rfl 24 (.tmp 11) (.tmp 46) rfl _ #[.int .u64 o0, .int .u64 o1, .int .u64 o2, .int .u64 o3] rfl rfl HN.out.get2 Cs.clInfo rfl (by simp [Value.oneCell']) ?_; intro w8 hst8; have HN := Lib.hid hst8; clear hst8))
                      refine hK.out _ _ ?_ (fun hHeld => ?_)
                      · (try dsimp only); (exact ⟨bkeep HN.out.bel x0, bkeep HN.out.bel x1, bkeep HN.out.bel x2, bkeep HN.out.bel x3, bkeep HN.out.bel z0, bkeep HN.out.bel z1, bkeep HN.out.bel z2, bkeep HN.out.bel z3⟩)
                      clear hK K
                      try simp only [List.getElem_toArray, List.getElem_cons_zero, List.getElem_cons_succ, Act.put, List.setIfInBounds_toArray, List.set_cons_zero, List.set_cons_succ]
                      refine wpAnyH_ready (rs := [9]) (by kernel_rfl) (by simp) ?_
                      refine AllReadyH.cons rfl (fun K hK => ?_) AllReadyH.nil
                      (first | (go_at_call 16; (first | (with_reducible refine (HC1.out _).mono ?_) | (with_reducible refine (HC3.out _).mono ?_)); rintro e w8 ⟨rfl, hb8⟩; have HN := Lib.hid (HN.out.call hb8); clear hb8) | (go_at_call 18; with_reducible refine (HC2.out _).mono ?_; rintro e w8 ⟨rfl, hb8⟩; have HN := Lib.hid (HN.out.call hb8); clear hb8) | (refine Cp.stepAlloc (T := 24) (cs := #[.int .u64 0, .int .u64 0, .int .u64 0, .int .u64 0]) rfl rfl (by intro u; kernel_rfl) HN.out ?_; intro g8 w8 hst8; have HN := Lib.hid hst8; clear hst8) | (refine St.stepRow rfl 24 (.tmp 10) (.tmp 42) rfl _ #[.int .u64 i0, .int .u64 i1, .int .u64 i2, .int .u64 i3] rfl rfl HN.out Cs.clInfo rfl (by simp [Value.oneCell']) ?_; intro w8 hst8; have HN := Lib.hid hst8; clear hst8) | (refine St.stepRow rfl 24 (.tmp 10) (.tmp 42) rfl _ #[.int .u64 i0, .int .u64 i1, .int .u64 i2, .int .u64 i3] rfl rfl HN.out.get2 Cs.clInfo rfl (by simp [Value.oneCell']) ?_; intro w8 hst8; have HN := Lib.hid hst8; clear hst8) | (refine St.stepRow rfl 24 (.tmp 11) (.tmp 46) rfl _ #[.int .u64 o0, .int .u64 o1, .int .u64 o2, .int .u64 o3] rfl rfl HN.out.get2 Cs.clInfo rfl (by simp [Value.oneCell']) ?_; intro w8 hst8; have HN := Lib.hid hst8; clear hst8))
                      refine hK.out _ _ ?_ (fun hHeld => ?_)
                      · (try dsimp only); (exact ⟨bkeep HN.out.bel x0, bkeep HN.out.bel x1, bkeep HN.out.bel x2, bkeep HN.out.bel x3, bkeep HN.out.bel z0, bkeep HN.out.bel z1, bkeep HN.out.bel z2, bkeep HN.out.bel z3⟩)
                      clear hK K
                      try simp only [List.getElem_toArray, List.getElem_cons_zero, List.getElem_cons_succ, Act.put, List.setIfInBounds_toArray, List.set_cons_zero, List.set_cons_succ]
                      refine wpAnyH_ready (rs := [10]) (by kernel_rfl) (by simp) ?_
                      refine AllReadyH.cons rfl (fun K hK => ?_) AllReadyH.nil
                      (first | (go_at_call 16; (first | (with_reducible refine (HC1.out _).mono ?_) | (with_reducible refine (HC3.out _).mono ?_)); rintro e w8 ⟨rfl, hb8⟩; have HN := Lib.hid (HN.out.call hb8); clear hb8) | (go_at_call 18; with_reducible refine (HC2.out _).mono ?_; rintro e w8 ⟨rfl, hb8⟩; have HN := Lib.hid (HN.out.call hb8); clear hb8) | (refine Cp.stepAlloc (T := 24) (cs := #[.int .u64 0, .int .u64 0, .int .u64 0, .int .u64 0]) rfl rfl (by intro u; kernel_rfl) HN.out ?_; intro g8 w8 hst8; have HN := Lib.hid hst8; clear hst8) | (refine St.stepRow rfl 24 (.tmp 10) (.tmp 42) rfl _ #[.int .u64 i0, .int .u64 i1, .int .u64 i2, .int .u64 i3] rfl rfl HN.out Cs.clInfo rfl (by simp [Value.oneCell']) ?_; intro w8 hst8; have HN := Lib.hid hst8; clear hst8) | (refine St.stepRow rfl 24 (.tmp 10) (.tmp 42) rfl _ #[.int .u64 i0, .int .u64 i1, .int .u64 i2, .int .u64 i3] rfl rfl HN.out.get2 Cs.clInfo rfl (by simp [Value.oneCell']) ?_; intro w8 hst8; have HN := Lib.hid hst8; clear hst8) | (refine St.stepRow rfl 24 (.tmp 11) (.tmp 46) rfl _ #[.int .u64 o0, .int .u64 o1, .int .u64 o2, .int .u64 o3] rfl rfl HN.out.get2 Cs.clInfo rfl (by simp [Value.oneCell']) ?_; intro w8 hst8; have HN := Lib.hid hst8; clear hst8))
                      refine hK.out _ _ ?_ (fun hHeld => ?_)
                      · (try dsimp only); (exact ⟨bkeep HN.out.bel x0, bkeep HN.out.bel x1, bkeep HN.out.bel x2, bkeep HN.out.bel x3, bkeep HN.out.bel z0, bkeep HN.out.bel z1, bkeep HN.out.bel z2, bkeep HN.out.bel z3⟩)
                      clear hK K
                      try simp only [List.getElem_toArray, List.getElem_cons_zero, List.getElem_cons_succ, Act.put, List.setIfInBounds_toArray, List.set_cons_zero, List.set_cons_succ]
                      refine wpAnyH_done (by kernel_rfl) ?_ _
                      exact REST _ _ _ (HST.out.join HN.out)
                    · skip
                      (first | (go_at_call 16; (first | (with_reducible refine (HC1.out _).mono ?_) | (with_reducible refine (HC3.out _).mono ?_)); rintro e w8 ⟨rfl, hb8⟩; have HN := Lib.hid (HN.out.call hb8); clear hb8) | (go_at_call 18; with_reducible refine (HC2.out _).mono ?_; rintro e w8 ⟨rfl, hb8⟩; have HN := Lib.hid (HN.out.call hb8); clear hb8) | (refine Cp.stepAlloc (T := 24) (cs := #[.int .u64 0, .int .u64 0, .int .u64 0, .int .u64 0]) rfl rfl (by intro u; kernel_rfl) HN.out ?_; intro g8 w8 hst8; have HN := Lib.hid hst8; clear hst8) | (refine St.stepRow rfl 24 (.tmp 10) (.tmp 42) rfl _ #[.int .u64 i0, .int .u64 i1, .int .u64 i2, .int .u64 i3] rfl rfl HN.out Cs.clInfo rfl (by simp [Value.oneCell']) ?_; intro w8 hst8; have HN := Lib.hid hst8; clear hst8) | (refine St.stepRow rfl 24 (.tmp 10) (.tmp 42) rfl _ #[.int .u64 i0, .int .u64 i1, .int .u64 i2, .int .u64 i3] rfl rfl HN.out.get2 Cs.clInfo rfl (by simp [Value.oneCell']) ?_; intro w8 hst8; have HN := Lib.hid hst8; clear hst8) | (refine St.stepRow rfl 24 (.tmp 11) (.tmp 46) rfl _ #[.int .u64 o0, .int .u64 o1, .int .u64 o2, .int .u64 o3] rfl rfl HN.out.get2 Cs.clInfo rfl (by simp [Value.oneCell']) ?_; intro w8 hst8; have HN := Lib.hid hst8; clear hst8))
                      refine hK.out _ _ ?_ (fun hHeld => ?_)
                      · (try dsimp only); (exact ⟨bkeep HN.out.bel x0, bkeep HN.out.bel x1, bkeep HN.out.bel x2, bkeep HN.out.bel x3, bkeep HN.out.bel z0, bkeep HN.out.bel z1, bkeep HN.out.bel z2, bkeep HN.out.bel z3⟩)
                      clear hK K
                      try simp only [List.getElem_toArray, List.getElem_cons_zero, List.getElem_cons_succ, Act.put, List.setIfInBounds_toArray, List.set_cons_zero, List.set_cons_succ]
                      refine wpAnyH_ready (rs := [7]) (by kernel_rfl) (by simp) ?_
                      refine AllReadyH.cons rfl (fun K hK => ?_) (AllReadyH.nil)
                      (first | (go_at_call 16; (first | (with_reducible refine (HC1.out _).mono ?_) | (with_reducible refine (HC3.out _).mono ?_)); rintro e w8 ⟨rfl, hb8⟩; have HN := Lib.hid (HN.out.call hb8); clear hb8) | (go_at_call 18; with_reducible refine (HC2.out _).mono ?_; rintro e w8 ⟨rfl, hb8⟩; have HN := Lib.hid (HN.out.call hb8); clear hb8) | (refine Cp.stepAlloc (T := 24) (cs := #[.int .u64 0, .int .u64 0, .int .u64 0, .int .u64 0]) rfl rfl (by intro u; kernel_rfl) HN.out ?_; intro g8 w8 hst8; have HN := Lib.hid hst8; clear hst8) | (refine St.stepRow rfl 24 (.tmp 10) (.tmp 42) rfl _ #[.int .u64 i0, .int .u64 i1, .int .u64 i2, .int .u64 i3] rfl rfl HN.out Cs.clInfo rfl (by simp [Value.oneCell']) ?_; intro w8 hst8; have HN := Lib.hid hst8; clear hst8) | (refine St.stepRow rfl 24 (.tmp 10) (.tmp 42) rfl _ #[.int .u64 i0, .int .u64 i1, .int .u64 i2, .int .u64 i3] rfl rfl HN.out.get2 Cs.clInfo rfl (by simp [Value.oneCell']) ?_; intro w8 hst8; have HN := Lib.hid hst8; clear hst8) | (refine St.stepRow rfl 24 (.tmp 11) (.tmp 46) rfl _ #[.int .u64 o0, .int .u64 o1, .int .u64 o2, .int .u64 o3] rfl rfl HN.out.get2 Cs.clInfo rfl (by simp [Value.oneCell']) ?_; intro w8 hst8; have HN := Lib.hid hst8; clear hst8))
                      refine hK.out _ _ ?_ (fun hHeld => ?_)
                      · (try dsimp only); (exact ⟨bkeep HN.out.bel x0, bkeep HN.out.bel x1, bkeep HN.out.bel x2, bkeep HN.out.bel x3, bkeep HN.out.bel z0, bkeep HN.out.bel z1, bkeep HN.out.bel z2, bkeep HN.out.bel z3⟩)
                      clear hK K
                      try simp only [List.getElem_toArray, List.getElem_cons_zero, List.getElem_cons_succ, Act.put, List.setIfInBounds_toArray, List.set_cons_zero, List.set_cons_succ]
                      refine wpAnyH_ready (rs := [9]) (by kernel_rfl) (by simp) ?_
                      refine AllReadyH.cons rfl (fun K hK => ?_) AllReadyH.nil
                      (first | (go_at_call 16; (first | (with_reducible refine (HC1.out _).mono ?_) | (with_reducible refine (HC3.out _).mono ?_)); rintro e w8 ⟨rfl, hb8⟩; have HN := Lib.hid (HN.out.call hb8); clear hb8) | (go_at_call 18; with_reducible refine (HC2.out _).mono ?_; rintro e w8 ⟨rfl, hb8⟩; have HN := Lib.hid (HN.out.call hb8); clear hb8) | (refine Cp.stepAlloc (T := 24) (cs := #[.int .u64 0, .int .u64 0, .int .u64 0, .int .u64 0]) rfl rfl (by intro u; kernel_rfl) HN.out ?_; intro g8 w8 hst8; have HN := Lib.hid hst8; clear hst8) | (refine St.stepRow rfl 24 (.tmp 10) (.tmp 42) rfl _ #[.int .u64 i0, .int .u64 i1, .int .u64 i2, .int .u64 i3] rfl rfl HN.out Cs.clInfo rfl (by simp [Value.oneCell']) ?_; intro w8 hst8; have HN := Lib.hid hst8; clear hst8) | (refine St.stepRow rfl 24 (.tmp 10) (.tmp 42) rfl _ #[.int .u64 i0, .int .u64 i1, .int .u64 i2, .int .u64 i3] rfl rfl HN.out.get2 Cs.clInfo rfl (by simp [Value.oneCell']) ?_; intro w8 hst8; have HN := Lib.hid hst8; clear hst8) | (refine St.stepRow rfl 24 (.tmp 11) (.tmp 46) rfl _ #[.int .u64 o0, .int .u64 o1, .int .u64 o2, .int .u64 o3] rfl rfl HN.out.get2 Cs.clInfo rfl (by simp [Value.oneCell']) ?_; intro w8 hst8; have HN := Lib.hid hst8; clear hst8))
                      refine hK.out _ _ ?_ (fun hHeld => ?_)
                      · (try dsimp only); (exact ⟨bkeep HN.out.bel x0, bkeep HN.out.bel x1, bkeep HN.out.bel x2, bkeep HN.out.bel x3, bkeep HN.out.bel z0, bkeep HN.out.bel z1, bkeep HN.out.bel z2, bkeep HN.out.bel z3⟩)
                      clear hK K
                      try simp only [List.getElem_toArray, List.getElem_cons_zero, List.getElem_cons_succ, Act.put, List.setIfInBounds_toArray, List.set_cons_zero, List.set_cons_succ]
                      refine wpAnyH_ready (rs := [10]) (by kernel_rfl) (by simp) ?_
                      refine AllReadyH.cons rfl (fun K hK => ?_) AllReadyH.nil
                      (first | (go_at_call 16; (first | (with_reducible refine (HC1.out _).mono ?_) | (with_reducible refine (HC3.out _).mono ?_)); rintro e w8 ⟨rfl, hb8⟩; have HN := Lib.hid (HN.out.call hb8); clear hb8) | (go_at_call 18; with_reducible refine (HC2.out _).mono ?_; rintro e w8 ⟨rfl, hb8⟩; have HN := Lib.hid (HN.out.call hb8); clear hb8) | (refine Cp.stepAlloc (T := 24) (cs := #[.int .u64 0, .int .u64 0, .int .u64 0, .int .u64 0]) rfl rfl (by intro u; kernel_rfl) HN.out ?_; intro g8 w8 hst8; have HN := Lib.hid hst8; clear hst8) | (refine St.stepRow rfl 24 (.tmp 10) (.tmp 42) rfl _ #[.int .u64 i0, .int .u64 i1, .int .u64 i2, .int .u64 i3] rfl rfl HN.out Cs.clInfo rfl (by simp [Value.oneCell']) ?_; intro w8 hst8; have HN := Lib.hid hst8; clear hst8) | (refine St.stepRow rfl 24 (.tmp 10) (.tmp 42) rfl _ #[.int .u64 i0, .int .u64 i1, .int .u64 i2, .int .u64 i3] rfl rfl HN.out.get2 Cs.clInfo rfl (by simp [Value.oneCell']) ?_; intro w8 hst8; have HN := Lib.hid hst8; clear hst8) | (refine St.stepRow rfl 24 (.tmp 11) (.tmp 46) rfl _ #[.int .u64 o0, .int .u64 o1, .int .u64 o2, .int .u64 o3] rfl rfl HN.out.get2 Cs.clInfo rfl (by simp [Value.oneCell']) ?_; intro w8 hst8; have HN := Lib.hid hst8; clear hst8))
                      refine hK.out _ _ ?_ (fun hHeld => ?_)
                      · (try dsimp only); (exact ⟨bkeep HN.out.bel x0, bkeep HN.out.bel x1, bkeep HN.out.bel x2, bkeep HN.out.bel x3, bkeep HN.out.bel z0, bkeep HN.out.bel z1, bkeep HN.out.bel z2, bkeep HN.out.bel z3⟩)
                      clear hK K
                      try simp only [List.getElem_toArray, List.getElem_cons_zero, List.getElem_cons_succ, Act.put, List.setIfInBounds_toArray, List.set_cons_zero, List.set_cons_succ]
                      refine wpAnyH_done (by kernel_rfl) ?_ _
                      exact REST _ _ _ (HST.out.join HN.out)
                  · skip
                    (first | (go_at_call 16; (first | (with_reducible refine (HC1.out _).mono ?_) | (with_reducible refine (HC3.out _).mono ?_)); rintro e w8 ⟨rfl, hb8⟩; have HN := Lib.hid (HN.out.call hb8); clear hb8) | (go_at_call 18; with_reducible refine (HC2.out _).mono ?_; rintro e w8 ⟨rfl, hb8⟩; have HN := Lib.hid (HN.out.call hb8); clear hb8) | (refine Cp.stepAlloc (T := 24) (cs := #[.int .u64 0, .int .u64 0, .int .u64 0, .int .u64 0]) rfl rfl (by intro u; kernel_rfl) HN.out ?_; intro g8 w8 hst8; have HN := Lib.hid hst8; clear hst8) | (refine St.stepRow rfl 24 (.tmp 10) (.tmp 42) rfl _ #[.int .u64 i0, .int .u64 i1, .int .u64 i2, .int .u64 i3] rfl rfl HN.out Cs.clInfo rfl (by simp [Value.oneCell']) ?_; intro w8 hst8; have HN := Lib.hid hst8; clear hst8) | (refine St.stepRow rfl 24 (.tmp 10) (.tmp 42) rfl _ #[.int .u64 i0, .int .u64 i1, .int .u64 i2, .int .u64 i3] rfl rfl HN.out.get2 Cs.clInfo rfl (by simp [Value.oneCell']) ?_; intro w8 hst8; have HN := Lib.hid hst8; clear hst8) | (refine St.stepRow rfl 24 (.tmp 11) (.tmp 46) rfl _ #[.int .u64 o0, .int .u64 o1, .int .u64 o2, .int .u64 o3] rfl rfl HN.out.get2 Cs.clInfo rfl (by simp [Value.oneCell']) ?_; intro w8 hst8; have HN := Lib.hid hst8; clear hst8))
                    refine hK.out _ _ ?_ (fun hHeld => ?_)
                    · (try dsimp only); (exact ⟨bkeep HN.out.bel x0, bkeep HN.out.bel x1, bkeep HN.out.bel x2, bkeep HN.out.bel x3, bkeep HN.out.bel z0, bkeep HN.out.bel z1, bkeep HN.out.bel z2, bkeep HN.out.bel z3⟩)
                    clear hK K
                    try simp only [List.getElem_toArray, List.getElem_cons_zero, List.getElem_cons_succ, Act.put, List.setIfInBounds_toArray, List.set_cons_zero, List.set_cons_succ]
                    refine wpAnyH_ready (rs := [6, 8]) (by kernel_rfl) (by simp) ?_
                    refine AllReadyH.cons rfl (fun K hK => ?_) (AllReadyH.cons rfl (fun K hK => ?_) (AllReadyH.nil))
                    · skip
                      go_simp
                      (first | (go_at_call 16; (first | (with_reducible refine (HC1.out _).mono ?_) | (with_reducible refine (HC3.out _).mono ?_)); rintro e w8 ⟨rfl, hb8⟩; have HN := Lib.hid (HN.out.call hb8); clear hb8) | (go_at_call 18; with_reducible refine (HC2.out _).mono ?_; rintro e w8 ⟨rfl, hb8⟩; have HN := Lib.hid (HN.out.call hb8); clear hb8) | (refine Cp.stepAlloc (T := 24) (cs := #[.int .u64 0, .int .u64 0, .int .u64 0, .int .u64 0]) rfl rfl (by intro u; kernel_rfl) HN.out ?_; intro g8 w8 hst8; have HN := Lib.hid hst8; clear hst8) | (refine St.stepRow rfl 24 (.tmp 10) (.tmp 42) rfl _ #[.int .u64 i0, .int .u64 i1, .int .u64 i2, .int .u64 i3] rfl rfl HN.out Cs.clInfo rfl (by simp [Value.oneCell']) ?_; intro w8 hst8; have HN := Lib.hid hst8; clear hst8) | (refine St.stepRow rfl 24 (.tmp 10) (.tmp 42) rfl _ #[.int .u64 i0, .int .u64 i1, .int .u64 i2, .int .u64 i3] rfl rfl HN.out.get2 Cs.clInfo rfl (by simp [Value.oneCell']) ?_; intro w8 hst8; have HN := Lib.hid hst8; clear hst8) | (refine St.stepRow rfl 24 (.tmp 11) (.tmp 46) rfl _ #[.int .u64 o0, .int .u64 o1, .int .u64 o2, .int .u64 o3] rfl rfl HN.out.get2 Cs.clInfo rfl (by simp [Value.oneCell']) ?_; intro w8 hst8; have HN := Lib.hid hst8; clear hst8))
                      refine hK.out _ _ ?_ (fun hHeld => ?_)
                      · (try dsimp only); (exact ⟨bkeep HN.out.bel x0, bkeep HN.out.bel x1, bkeep HN.out.bel x2, bkeep HN.out.bel x3, bkeep HN.out.bel z0, bkeep HN.out.bel z1, bkeep HN.out.bel z2, bkeep HN.out.bel z3⟩)
                      clear hK K
                      try simp only [List.getElem_toArray, List.getElem_cons_zero, List.getElem_cons_succ, Act.put, List.setIfInBounds_toArray, List.set_cons_zero, List.set_cons_succ]
                      refine wpAnyH_ready (rs := [8]) (by kernel_rfl) (by simp) ?_
                      refine AllReadyH.cons rfl (fun K hK => ?_) (AllReadyH.nil)
                      (first | (go_at_call 16; (first | (with_reducible refine (HC1.out _).mono ?_) | (with_reducible refine (HC3.out _).mono ?_)); rintro e w8 ⟨rfl, hb8⟩; have HN := Lib.hid (HN.out.call hb8); clear hb8) | (go_at_call 18; with_reducible refine (HC2.out _).mono ?_; rintro e w8 ⟨rfl, hb8⟩; have HN := Lib.hid (HN.out.call hb8); clear hb8) | (refine Cp.stepAlloc (T := 24) (cs := #[.int .u64 0, .int .u64 0, .int .u64 0, .int .u64 0]) rfl rfl (by intro u; kernel_rfl) HN.out ?_; intro g8 w8 hst8; have HN := Lib.hid hst8; clear hst8) | (refine St.stepRow rfl 24 (.tmp 10) (.tmp 42) rfl _ #[.int .u64 i0, .int .u64 i1, .int .u64 i2, .int .u64 i3] rfl rfl HN.out Cs.clInfo rfl (by simp [Value.oneCell']) ?_; intro w8 hst8; have HN := Lib.hid hst8; clear hst8) | (refine St.stepRow rfl 24 (.tmp 10) (.tmp 42) rfl _ #[.int .u64 i0, .int .u64 i1, .int .u64 i2, .int .u64 i3] rfl rfl HN.out.get2 Cs.clInfo rfl (by simp [Value.oneCell']) ?_; intro w8 hst8; have HN := Lib.hid hst8; clear hst8) | (refine St.stepRow rfl 24 (.tmp 11) (.tmp 46) rfl _ #[.int .u64 o0, .int .u64 o1, .int .u64 o2, .int .u64 o3] rfl rfl HN.out.get2 Cs.clInfo rfl (by simp [Value.oneCell']) ?_; intro w8 hst8; have HN := Lib.hid hst8; clear hst8))
                      refine hK.out _ _ ?_ (fun hHeld => ?_)
                      · (try dsimp only); (exact ⟨bkeep HN.out.bel x0, bkeep HN.out.bel x1, bkeep HN.out.bel x2, bkeep HN.out.bel x3, bkeep HN.out.bel z0, bkeep HN.out.bel z1, bkeep HN.out.bel z2, bkeep HN.out.bel z3⟩)
                      clear hK K
                      try simp only [List.getElem_toArray, List.getElem_cons_zero, List.getElem_cons_succ, Act.put, List.setIfInBounds_toArray, List.set_cons_zero, List.set_cons_succ]
                      refine wpAnyH_ready (rs := [9]) (by kernel_rfl) (by simp) ?_
                      refine AllReadyH.cons rfl (fun K hK => ?_) AllReadyH.nil
                      (first | (go_at_call 16; (first | (with_reducible refine (HC1.out _).mono ?_) | (with_reducible refine (HC3.out _).mono ?_)); rintro e w8 ⟨rfl, hb8⟩; have HN := Lib.hid (HN.out.call hb8); clear hb8) | (go_at_call 18; with_reducible refine (HC2.out _).mono ?_; rintro e w8 ⟨rfl, hb8⟩; have HN := Lib.hid (HN.out.call hb8); clear hb8) | (refine Cp.stepAlloc (T := 24) (cs := #[.int .u64 0, .int .u64 0, .int .u64 0, .int .u64 0]) rfl rfl (by intro u; kernel_rfl) HN.out ?_; intro g8 w8 hst8; have HN := Lib.hid hst8; clear hst8) | (refine St.stepRow rfl 24 (.tmp 10) (.tmp 42) rfl _ #[.int .u64 i0, .int .u64 i1, .int .u64 i2, .int .u64 i3] rfl rfl HN.out Cs.clInfo rfl (by simp [Value.oneCell']) ?_; intro w8 hst8; have HN := Lib.hid hst8; clear hst8) | (refine St.stepRow rfl 24 (.tmp 10) (.tmp 42) rfl _ #[.int .u64 i0, .int .u64 i1, .int .u64 i2, .int .u64 i3] rfl rfl HN.out.get2 Cs.clInfo rfl (by simp [Value.oneCell']) ?_; intro w8 hst8; have HN := Lib.hid hst8; clear hst8) | (refine St.stepRow rfl 24 (.tmp 11) (.tmp 46) rfl _ #[.int .u64 o0, .int .u64 o1, .int .u64 o2, .int .u64 o3] rfl rfl HN.out.get2 Cs.clInfo rfl (by simp [Value.oneCell']) ?_; intro w8 hst8; have HN := Lib.hid hst8; clear hst8))
                      refine hK.out _ _ ?_ (fun hHeld => ?_)
                      · (try dsimp only); (exact ⟨bkeep HN.out.bel x0, bkeep HN.out.bel x1, bkeep HN.out.bel x2, bkeep HN.out.bel x3, bkeep HN.out.bel z0, bkeep HN.out.bel z1, bkeep HN.out.bel z2, bkeep HN.out.bel z3⟩)
                      clear hK K
                      try simp only [List.getElem_toArray, List.getElem_cons_zero, List.getElem_cons_succ, Act.put, List.setIfInBounds_toArray, List.set_cons_zero, List.set_cons_succ]
                      refine wpAnyH_ready (rs := [10]) (by kernel_rfl) (by simp) ?_
                      refine AllReadyH.cons rfl (fun K hK => ?_) AllReadyH.nil
                      (first | (go_at_call 16; (first | (with_reducible refine (HC1.out _).mono ?_) | (with_reducible refine (HC3.out _).mono ?_)); rintro e w8 ⟨rfl, hb8⟩; have HN := Lib.hid (HN.out.call hb8); clear hb8) | (go_at_call 18; with_reducible refine (HC2.out _).mono ?_; rintro e w8 ⟨rfl, hb8⟩; have HN := Lib.hid (HN.out.call hb8); clear hb8) | (refine Cp.stepAlloc (T := 24) (cs := #[.int .u64 0, .int .u64 0, .int .u64 0, .int .u64 0]) rfl rfl (by intro u; kernel_rfl) HN.out ?_; intro g8 w8 hst8; have HN := Lib.hid hst8; clear hst8) | (refine St.stepRow rfl 24 (.tmp 10) (.tmp 42) rfl _ #[.int .u64 i0, .int .u64 i1, .int .u64 i2, .int .u64 i3] rfl rfl HN.out Cs.clInfo rfl (by simp [Value.oneCell']) ?_; intro w8 hst8; have HN := Lib.hid hst8; clear hst8) | (refine St.stepRow rfl 24 (.tmp 10) (.tmp 42) rfl _ #[.int .u64 i0, .int .u64 i1, .int .u64 i2, .int .u64 i3] rfl rfl HN.out.get2 Cs.clInfo rfl (by simp [Value.oneCell']) ?_; intro w8 hst8; have HN := Lib.hid hst8; clear hst8) | (refine St.stepRow rfl 24 (.tmp 11) (.tmp 46) rfl _ #[.int .u64 o0, .int .u64 o1, .int .u64 o2, .int .u64 o3] rfl rfl HN.out.get2 Cs.clInfo rfl (by simp [Value.oneCell']) ?_; intro w8 hst8; have HN := Lib.hid hst8; clear hst8))
                      refine hK.out _ _ ?_ (fun hHeld => ?_)
                      · (try dsimp only); (exact ⟨bkeep HN.out.bel x0, bkeep HN.out.bel x1, bkeep HN.out.bel x2, bkeep HN.out.bel x3, bkeep HN.out.bel z0, bkeep HN.out.bel z1, bkeep HN.out.bel z2, bkeep HN.out.bel z3⟩)
                      clear hK K
                      try simp only [List.getElem_toArray, List.getElem_cons_zero, List.getElem_cons_succ, Act.put, List.setIfInBounds_toArray, List.set_cons_zero, List.set_cons_succ]
                      refine wpAnyH_done (by kernel_rfl) ?_ _
                      exact REST _ _ _ (HST.out.join HN.out)
                    · skip
                      (first | (go_at_call 16; (first | (with_reducible refine (HC1.out _).mono ?_) | (with_reducible refine (HC3.out _).mono ?_)); rintro e w8 ⟨rfl, hb8⟩; have HN := Lib.hid (HN.out.call hb8); clear hb8) | (go_at_call 18; with_reducible refine (HC2.out _).mono ?_; rintro e w8 ⟨rfl, hb8⟩; have HN := Lib.hid (HN.out.call hb8); clear hb8) | (refine Cp.stepAlloc (T := 24) (cs := #[.int .u64 0, .int .u64 0, .int .u64 0, .int .u64 0]) rfl rfl (by intro u; kernel_rfl) HN.out ?_; intro g8 w8 hst8; have HN := Lib.hid hst8; clear hst8) | (refine St.stepRow rfl 24 (.tmp 10) (.tmp 42) rfl _ #[.int .u64 i0, .int .u64 i1, .int .u64 i2, .int .u64 i3] rfl rfl HN.out Cs.clInfo rfl (by simp [Value.oneCell']) ?_; intro w8 hst8; have HN := Lib.hid hst8; clear hst8) | (refine St.stepRow rfl 24 (.tmp 10) (.tmp 42) rfl _ #[.int .u64 i0, .int .u64 i1, .int .u64 i2, .int .u64 i3] rfl rfl HN.out.get2 Cs.clInfo rfl (by simp [Value.oneCell']) ?_; intro w8 hst8; have HN := Lib.hid hst8; clear hst8) | (refine St.stepRow rfl 24 (.tmp 11) (.tmp 46) rfl _ #[.int .u64 o0, .int .u64 o1, .int .u64 o2, .int .u64 o3] rfl rfl HN.out.get2 Cs.clInfo rfl (by simp [Value.oneCell']) ?_; intro w8 hst8; have HN := Lib.hid hst8; clear hst8))
                      refine hK.out _ _ ?_ (fun hHeld => ?_)
                      · (try dsimp only); (exact ⟨bkeep HN.out.bel x0, bkeep HN.out.bel x1, bkeep HN.out.bel x2, bkeep HN.out.bel x3, bkeep HN.out.bel z0, bkeep HN.out.bel z1, bkeep HN.out.bel z2, bkeep HN.out.bel z3⟩)
                      clear hK K
                      try simp only [List.getElem_toArray, List.getElem_cons_zero, List.getElem_cons_succ, Act.put, List.setIfInBounds_toArray, List.set_cons_zero, List.set_cons_succ]
                      refine wpAnyH_ready (rs := [6]) (by kernel_rfl) (by simp) ?_
                      refine AllReadyH.cons rfl (fun K hK => ?_) (AllReadyH.nil)
                      go_simp
                      (first | (go_at_call 16; (first | (with_reducible refine (HC1.out _).mono ?_) | (with_reducible refine (HC3.out _).mono ?_)); rintro e w8 ⟨rfl, hb8⟩; have HN := Lib.hid (HN.out.call hb8); clear hb8) | (go_at_call 18; with_reducible refine (HC2.out _).mono ?_; rintro e w8 ⟨rfl, hb8⟩; have HN := Lib.hid (HN.out.call hb8); clear hb8) | (refine Cp.stepAlloc (T := 24) (cs := #[.int .u64 0, .int .u64 0, .int .u64 0, .int .u64 0]) rfl rfl (by intro u; kernel_rfl) HN.out ?_; intro g8 w8 hst8; have HN := Lib.hid hst8; clear hst8) | (refine St.stepRow rfl 24 (.tmp 10) (.tmp 42) rfl _ #[.int .u64 i0, .int .u64 i1, .int .u64 i2, .int .u64 i3] rfl rfl HN.out Cs.clInfo rfl (by simp [Value.oneCell']) ?_; intro w8 hst8; have HN := Lib.hid hst8; clear hst8) | (refine St.stepRow rfl 24 (.tmp 10) (.tmp 42) rfl _ #[.int .u64 i0, .int .u64 i1, .int .u64 i2, .int .u64 i3] rfl rfl HN.out.get2 Cs.clInfo rfl (by simp [Value.oneCell']) ?_; intro w8 hst8; have HN := Lib.hid hst8; clear hst8) | (refine St.stepRow rfl 24 (.tmp 11) (.tmp 46) rfl _ #[.int .u64 o0, .int .u64 o1, .int .u64 o2, .int .u64 o3] rfl rfl HN.out.get2 Cs.clInfo rfl (by simp [Value.oneCell']) ?_; intro w8 hst8; have HN := Lib.hid hst8; clear hst8))
                      refine hK.out _ _ ?_ (fun hHeld => ?_)
                      · (try dsimp only); (exact ⟨bkeep HN.out.bel x0, bkeep HN.out.bel x1, bkeep HN.out.bel x2, bkeep HN.out.bel x3, bkeep HN.out.bel z0, bkeep HN.out.bel z1, bkeep HN.out.bel z2, bkeep HN.out.bel z3⟩)
                      clear hK K
                      try simp only [List.getElem_toArray, List.getElem_cons_zero, List.getElem_cons_succ, Act.put, List.setIfInBounds_toArray, List.set_cons_zero, List.set_cons_succ]
                      refine wpAnyH_ready (rs := [9]) (by kernel_rfl) (by simp) ?_
                      refine AllReadyH.cons rfl (fun K hK => ?_) AllReadyH.nil
                      (first | (go_at_call 16; (first | (with_reducible refine (HC1.out _).mono ?_) | (with_reducible refine (HC3.out _).mono ?_)); rintro e w8 ⟨rfl, hb8⟩; have HN := Lib.hid (HN.out.call hb8); clear hb8) | (go_at_call 18; with_reducible refine (HC2.out _).mono ?_; rintro e w8 ⟨rfl, hb8⟩; have HN := Lib.hid (HN.out.call hb8); clear hb8) | (refine Cp.stepAlloc (T := 24) (cs := #[.int .u64 0, .int .u64 0, .int .u64 0, .int .u64 0]) rfl rfl (by intro u; kernel_rfl) HN.out ?_; intro g8 w8 hst8; have HN := Lib.hid hst8; clear hst8) | (refine St.stepRow rfl 24 (.tmp 10) (.tmp 42) rfl _ #[.int .u64 i0, .int .u64 i1, .int .u64 i2, .int .u64 i3] rfl rfl HN.out Cs.clInfo rfl (by simp [Value.oneCell']) ?_; intro w8 hst8; have HN := Lib.hid hst8; clear hst8) | (refine St.stepRow rfl 24 (.tmp 10) (.tmp 42) rfl _ #[.int .u64 i0, .int .u64 i1, .int .u64 i2, .int .u64 i3] rfl rfl HN.out.get2 Cs.clInfo rfl (by simp [Value.oneCell']) ?_; intro w8 hst8; have HN := Lib.hid hst8; clear hst8) | (refine St.stepRow rfl 24 (.tmp 11) (.tmp 46) rfl _ #[.int .u64 o0, .int .u64 o1, .int .u64 o2, .int .u64 o3] rfl rfl HN.out.get2 Cs.clInfo rfl (by simp [Value.oneCell']) ?_; intro w8 hst8; have HN := Lib.hid hst8; clear hst8))
                      refine hK.out _ _ ?_ (fun hHeld => ?_)
                      · (try dsimp only); (exact ⟨bkeep HN.out.bel x0, bkeep HN.out.bel x1, bkeep HN.out.bel x2, bkeep HN.out.bel x3, bkeep HN.out.bel z0, bkeep HN.out.bel z1, bkeep HN.out.bel z2, bkeep HN.out.bel z3⟩)
                      clear hK K
                      try simp only [List.getElem_toArray, List.getElem_cons_zero, List.getElem_cons_succ, Act.put, List.setIfInBounds_toArray, List.set_cons_zero, List.set_cons_succ]
                      refine wpAnyH_ready (rs := [10]) (by kernel_rfl) (by simp) ?_
                      refine AllReadyH.cons rfl (fun K hK => ?_) AllReadyH.nil
                      (first | (go_at_call 16; (first | (with_reducible refine (HC1.out _).mono ?_) | (with_reducible refine (HC3.out _).mono ?_)); rintro e w8 ⟨rfl, hb8⟩; have HN := Lib.hid (HN.out.call hb8); clear hb8) | (go_at_call 18; with_reducible refine (HC2.out _).mono ?_; rintro e w8 ⟨rfl, hb8⟩; have HN := Lib.hid (HN.out.call hb8); clear hb8) | (refine Cp.stepAlloc (T := 24) (cs := #[.int .u64 0, .int .u64 0, .int .u64 0, .int .u64 0]) rfl rfl (by intro u; kernel_rfl) HN.out ?_; intro g8 w8 hst8; have HN := Lib.hid hst8; clear hst8) | (refine St.stepRow rfl 24 (.tmp 10) (.tmp 42) rfl _ #[.int .u64 i0, .int .u64 i1, .int .u64 i2, .int .u64 i3] rfl rfl HN.out Cs.clInfo rfl (by simp [Value.oneCell']) ?_; intro w8 hst8; have HN := Lib.hid hst8; clear hst8) | (refine St.stepRow rfl 24 (.tmp 10) (.tmp 42) rfl _ #[.int .u64 i0, .int .u64 i1, .int .u64 i2, .int .u64 i3] rfl rfl HN.out.get2 Cs.clInfo rfl (by simp [Value.oneCell']) ?_; intro w8 hst8; have HN := Lib.hid hst8; clear hst8) | (refine St.stepRow rfl 24 (.tmp 11) (.tmp 46) rfl _ #[.int .u64 o0, .int .u64 o1, .int .u64 o2, .int .u64 o3] rfl rfl HN.out.get2 Cs.clInfo rfl (by simp [Value.oneCell']) ?_; intro w8 hst8; have HN := Lib.hid hst8; clear hst8))
                      refine hK.out _ _ ?_ (fun hHeld => ?_)
                      · (try dsimp only); (exact ⟨bkeep HN.out.bel x0, bkeep HN.out.bel x1, bkeep HN.out.bel x2, bkeep HN.out.bel x3, bkeep HN.out.bel z0, bkeep HN.out.bel z1, bkeep HN.out.bel z2, bkeep HN.out.bel z3⟩)
                      clear hK K
                      try simp only [List.getElem_toArray, List.getElem_cons_zero, List.getElem_cons_succ, Act.put, List.setIfInBounds_toArray, List.set_cons_zero, List.set_cons_succ]
                      refine wpAnyH_done (by kernel_rfl) ?_ _
                      exact REST _ _ _ (HST.out.join HN.out)
                  · skip
                    (first | (go_at_call 16; (first | (with_reducible refine (HC1.out _).mono ?_) | (with_reducible refine (HC3.out _).mono ?_)); rintro e w8 ⟨rfl, hb8⟩; have HN := Lib.hid (HN.out.call hb8); clear hb8) | (go_at_call 18; with_reducible refine (HC2.out _).mono ?_; rintro e w8 ⟨rfl, hb8⟩; have HN := Lib.hid (HN.out.call hb8); clear hb8) | (refine Cp.stepAlloc (T := 24) (cs := #[.int .u64 0, .int .u64 0, .int .u64 0, .int .u64 0]) rfl rfl (by intro u; kernel_rfl) HN.out ?_; intro g8 w8 hst8; have HN := Lib.hid hst8; clear hst8) | (refine St.stepRow rfl 24 (.tmp 10) (.tmp 42) rfl _ #[.int .u64 i0, .int .u64 i1, .int .u64 i2, .int .u64 i3] rfl rfl HN.out Cs.clInfo rfl (by simp [Value.oneCell']) ?_; intro w8 hst8; have HN := Lib.hid hst8; clear hst8) | (refine St.stepRow rfl 24 (.tmp 10) (.tmp 42) rfl _ #[.int .u64 i0, .int .u64 i1, .int .u64 i2, .int .u64 i3] rfl rfl HN.out.get2 Cs.clInfo rfl (by simp [Value.oneCell']) ?_; intro w8 hst8; have HN := Lib.hid hst8; clear hst8) | (refine St.stepRow rfl 24 (.tmp 11) (.tmp 46) rfl _ #[.int .u64 o0, .int .u64 o1, .int .u64 o2, .int .u64 o3] rfl rfl HN.out.get2 Cs.clInfo rfl (by simp [Value.oneCell']) ?_; intro w8 hst8; have HN := Lib.hid hst8; clear hst8))
                    refine hK.out _ _ ?_ (fun hHeld => ?_)
                    · (try dsimp only); (exact ⟨bkeep HN.out.bel x0, bkeep HN.out.bel x1, bkeep HN.out.bel x2, bkeep HN.out.bel x3, bkeep HN.out.bel z0, bkeep HN.out.bel z1, bkeep HN.out.bel z2, bkeep HN.out.bel z3⟩)
                    clear hK K
                    try simp only [List.getElem_toArray, List.getElem_cons_zero, List.getElem_cons_succ, Act.put, List.setIfInBounds_toArray, List.set_cons_zero, List.set_cons_succ]
                    refine wpAnyH_ready (rs := [6, 7]) (by kernel_rfl) (by simp) ?_
                    refine AllReadyH.cons rfl (fun K hK => ?_) (AllReadyH.cons rfl (fun K hK => ?_) (AllReadyH.nil))
                    · skip
                      go_simp
                      (first | (go_at_call 16; (first | (with_reducible refine (HC1.out _).mono ?_) | (with_reducible refine (HC3.out _).mono ?_)); rintro e w8 ⟨rfl, hb8⟩; have HN := Lib.hid (HN.out.call hb8); clear hb8) | (go_at_call 18; with_reducible refine (HC2.out _).mono ?_; rintro e w8 ⟨rfl, hb8⟩; have HN := Lib.hid (HN.out.call hb8); clear hb8) | (refine Cp.stepAlloc (T := 24) (cs := #[.int .u64 0, .int .u64 0, .int .u64 0, .int .u64 0]) rfl rfl (by intro u; kernel_rfl) HN.out ?_; intro g8 w8 hst8; have HN := Lib.hid hst8; clear hst8) | (refine St.stepRow rfl 24 (.tmp 10) (.tmp 42) rfl _ #[.int .u64 i0, .int .u64 i1, .int .u64 i2, .int .u64 i3] rfl rfl HN.out Cs.clInfo rfl (by simp [Value.oneCell']) ?_; intro w8 hst8; have HN := Lib.hid hst8; clear hst8) | (refine St.stepRow rfl 24 (.tmp 10) (.tmp 42) rfl _ #[.int .u64 i0, .int .u64 i1, .int .u64 i2, .int .u64 i3] rfl rfl HN.out.get2 Cs.clInfo rfl (by simp [Value.oneCell']) ?_; intro w8 hst8; have HN := Lib.hid hst8; clear hst8) | (refine St.stepRow rfl 24 (.tmp 11) (.tmp 46) rfl _ #[.int .u64 o0, .int .u64 o1, .int .u64 o2, .int .u64 o3] rfl rfl HN.out.get2 Cs.clInfo rfl (by simp [Value.oneCell']) ?_; intro w8 hst8; have HN := Lib.hid hst8; clear hst8))
                      refine hK.out _ _ ?_ (fun hHeld => ?_)
                      · (try dsimp only); (exact ⟨bkeep HN.out.bel x0, bkeep HN.out.bel x1, bkeep HN.out.bel x2, bkeep HN.out.bel x3, bkeep HN.out.bel z0, bkeep HN.out.bel z1, bkeep HN.out.bel z2, bkeep HN.out.bel z3⟩)
                      clear hK K
                      try simp only [List.getElem_toArray, List.getElem_cons_zero, List.getElem_cons_succ, Act.put, List.setIfInBounds_toArray, List.set_cons_zero, List.set_cons_succ]
                      refine wpAnyH_ready (rs := [7]) (by kernel_rfl) (by simp) ?_
                      refine AllReadyH.cons rfl (fun K hK => ?_) (AllReadyH.nil)
                      (first | (go_at_call 16; (first | (with_reducible refine (HC1.out _).mono ?_) | (with_reducible refine (HC3.out _).mono ?_)); rintro e w8 ⟨rfl, hb8⟩; have HN := Lib.hid (HN.out.call hb8); clear hb8) | (go_at_call 18; with_reducible refine (HC2.out _).mono ?_; rintro e w8 ⟨rfl, hb8⟩; have HN := Lib.hid (HN.out.call hb8); clear hb8) | (refine Cp.stepAlloc (T := 24) (cs := #[.int .u64 0, .int .u64 0, .int .u64 0, .int .u64 0]) rfl rfl (by intro u; kernel_rfl) HN.out ?_; intro g8 w8 hst8; have HN := Lib.hid hst8; clear hst8) | (refine St.stepRow rfl 24 (.tmp 10) (.tmp 42) rfl _ #[.int .u64 i0, .int .u64 i1, .int .u64 i2, .int .u64 i3] rfl rfl HN.out Cs.clInfo rfl (by simp [Value.oneCell']) ?_; intro w8 hst8; have HN := Lib.hid hst8; clear hst8) | (refine St.stepRow rfl 24 (.tmp 10) (.tmp 42) rfl _ #[.int .u64 i0, .int .u64 i1, .int .u64 i2, .int .u64 i3] rfl rfl HN.out.get2 Cs.clInfo rfl (by simp [Value.oneCell']) ?_; intro w8 hst8; have HN := Lib.hid hst8; clear hst8) | (refine St.stepRow rfl 24 (.tmp 11) (.tmp 46) rfl _ #[.int .u64 o0, .int .u64 o1, .int .u64 o2, .int .u64 o3] rfl rfl HN.out.get2 Cs.clInfo rfl (by simp [Value.oneCell']) ?_; intro w8 hst8; have HN := Lib.hid hst8; clear hst8))
                      refine hK.out _ _ ?_ (fun hHeld => ?_)
                      · (try dsimp only); (exact ⟨bkeep HN.out.bel x0, bkeep HN.out.bel x1, bkeep HN.out.bel x2, bkeep HN.out.bel x3, bkeep HN.out.bel z0, bkeep HN.out.bel z1, bkeep HN.out.bel z2, bkeep HN.out.bel z3⟩)
                      clear hK K
                      try simp only [List.getElem_toArray, List.getElem_cons_zero, List.getElem_cons_succ, Act.put, List.setIfInBounds_toArray, List.set_cons_zero, List.set_cons_succ]
                      refine wpAnyH_ready (rs := [9]) (by kernel_rfl) (by simp) ?_
                      refine AllReadyH.cons rfl (fun K hK => ?_) AllReadyH.nil
                      (first | (go_at_call 16; (first | (with_reducible refine (HC1.out _).mono ?_) | (with_reducible refine (HC3.out _).mono ?_)); rintro e w8 ⟨rfl, hb8⟩; have HN := Lib.hid (HN.out.call hb8); clear hb8) | (go_at_call 18; with_reducible refine (HC2.out _).mono ?_; rintro e w8 ⟨rfl, hb8⟩; have HN := Lib.hid (HN.out.call hb8); clear hb8) | (refine Cp.stepAlloc (T := 24) (cs := #[.int .u64 0, .int .u64 0, .int .u64 0, .int .u64 0]) rfl rfl (by intro u; kernel_rfl) HN.out ?_; intro g8 w8 hst8; have HN := Lib.hid hst8; clear hst8) | (refine St.stepRow rfl 24 (.tmp 10) (.tmp 42) rfl _ #[.int .u64 i0, .int .u64 i1, .int .u64 i2, .int .u64 i3] rfl rfl HN.out Cs.clInfo rfl (by simp [Value.oneCell']) ?_; intro w8 hst8; have HN := Lib.hid hst8; clear hst8) | (refine St.stepRow rfl 24 (.tmp 10) (.tmp 42) rfl _ #[.int .u64 i0, .int .u64 i1, .int .u64 i2, .int .u64 i3] rfl rfl HN.out.get2 Cs.clInfo rfl (by simp [Value.oneCell']) ?_; intro w8 hst8; have HN := Lib.hid hst8; clear hst8) | (refine St.stepRow rfl 24 (.tmp 11) (.tmp 46) rfl _ #[.int .u64 o0, .int .u64 o1, .int .u64 o2, .int .u64 o3] rfl rfl HN.out.get2 Cs.clInfo rfl (by simp [Value.oneCell']) ?_; intro w8 hst8; have HN := Lib.hid hst8; clear hst8))
                      refine hK.out _ _ ?_ (fun hHeld => ?_)
                      · (try dsimp only); (exact ⟨bkeep HN.out.bel x0, bkeep HN.out.bel x1, bkeep HN.out.bel x2, bkeep HN.out.bel x3, bkeep HN.out.bel z0, bkeep HN.out.bel z1, bkeep HN.out.bel z2, bkeep HN.out.bel z3⟩)
                      clear hK K
                      try simp only [List.getElem_toArray, List.getElem_cons_zero, List.getElem_cons_succ, Act.put, List.setIfInBounds_toArray, List.set_cons_zero, List.set_cons_succ]
                      refine wpAnyH_ready (rs := [10]) (by kernel_rfl) (by simp) ?_
                      refine AllReadyH.cons rfl (fun K hK => ?_) AllReadyH.nil
                      (first | (go_at_call 16; (first | (with_reducible refine (HC1.out _).mono ?_) | (with_reducible refine (HC3.out _).mono ?_)); rintro e w8 ⟨rfl, hb8⟩; have HN := Lib.hid (HN.out.call hb8); clear hb8) | (go_at_call 18; with_reducible refine (HC2.out _).mono ?_; rintro e w8 ⟨rfl, hb8⟩; have HN := Lib.hid (HN.out.call hb8); clear hb8) | (refine Cp.stepAlloc (T := 24) (cs := #[.int .u64 0, .int .u64 0, .int .u64 0, .int .u64 0]) rfl rfl (by intro u; kernel_rfl) HN.out ?_; intro g8 w8 hst8; have HN := Lib.hid hst8; clear hst8) | (refine St.stepRow rfl 24 (.tmp 10) (.tmp 42) rfl _ #[.int .u64 i0, .int .u64 i1, .int .u64 i2, .int .u64 i3] rfl rfl HN.out Cs.clInfo rfl (by simp [Value.oneCell']) ?_; intro w8 hst8; have HN := Lib.hid hst8; clear hst8) | (refine St.stepRow rfl 24 (.tmp 10) (.tmp 42) rfl _ #[.int .u64 i0, .int .u64 i1, .int .u64 i2, .int .u64 i3] rfl rfl HN.out.get2 Cs.clInfo rfl (by simp [Value.oneCell']) ?_; intro w8 hst8; have HN := Lib.hid hst8; clear hst8) | (refine St.stepRow rfl 24 (.tmp 11) (.tmp 46) rfl _ #[.int .u64 o0, .int .u64 o1, .int .u64 o2, .int .u64 o3] rfl rfl HN.out.get2 Cs.clInfo rfl (by simp [Value.oneCell']) ?_; intro w8 hst8; have HN := Lib.hid hst8; clear hst8))
                      refine hK.out _ _ ?_ (fun hHeld => ?_)
                      · (try dsimp only); (exact ⟨bkeep HN.out.bel x0, bkeep HN.out.bel x1, bkeep HN.out.bel x2, bkeep HN.out.bel x3, bkeep HN.out.bel z0, bkeep HN.out.bel z1, bkeep HN.out.bel z2, bkeep HN.out.bel z3⟩)
                      clear hK K
                      try simp only [List.getElem_toArray, List.getElem_cons_zero, List.getElem_cons_succ, Act.put, List.setIfInBounds_toArray, List.set_cons_zero, List.set_cons_succ]
                      refine wpAnyH_done (by kernel_rfl) ?_ _
                      exact REST _ _ _ (HST.out.join HN.out)
                    · skip
                      (first | (go_at_call 16; (first | (with_reducible refine (HC1.out _).mono ?_) | (with_reducible refine (HC3.out _).mono ?_)); rintro e w8 ⟨rfl, hb8⟩; have HN := Lib.hid (HN.out.call hb8); clear hb8) | (go_at_call 18; with_reducible refine (HC2.out _).mono ?_; rintro e w8 ⟨rfl, hb8⟩; have HN := Lib.hid (HN.out.call hb8); clear hb8) | (refine Cp.stepAlloc (T := 24) (cs := #[.int .u64 0, .int .u64 0, .int .u64 0, .int .u64 0]) rfl rfl (by intro u; kernel_rfl) HN.out ?_; intro g8 w8 hst8; have HN := Lib.hid hst8; clear hst8) | (refine St.stepRow rfl 24 (.tmp 10) (.tmp 42) rfl _ #[.int .u64 i0, .int .u64 i1, .int .u64 i2, .int .u64 i3] rfl rfl HN.out Cs.clInfo rfl (by simp [Value.oneCell']) ?_; intro w8 hst8; have HN := Lib.hid hst8; clear hst8) | (refine St.stepRow rfl 24 (.tmp 10) (.tmp 42) rfl _ #[.int .u64 i0, .int .u64 i1, .int .u64 i2, .int .u64 i3] rfl rfl HN.out.get2 Cs.clInfo rfl (by simp [Value.oneCell']) ?_; intro w8 hst8; have HN := Lib.hid hst8; clear hst8) | (refine St.stepRow rfl 24 (.tmp 11) (.tmp 46) rfl _ #[.int .u64 o0, .int .u64 o1, .int .u64 o2, .int .u64 o3] rfl rfl HN.out.get2 Cs.clInfo rfl (by simp [Value.oneCell']) ?_; intro w8 hst8; have HN := Lib.hid hst8; clear hst8))
                      refine hK.out _ _ ?_ (fun hHeld => ?_)
                      · (try dsimp only); (exact ⟨bkeep HN.out.bel x0, bkeep HN.out.bel x1, bkeep HN.out.bel x2, bkeep HN.out.bel x3, bkeep HN.out.bel z0, bkeep HN.out.bel z1, bkeep HN.out.bel z2, bkeep HN.out.bel z3⟩)
                      clear hK K
                      try simp only [List.getElem_toArray, List.getElem_cons_zero, List.getElem_cons_succ, Act.put, List.setIfInBounds_toArray, List.set_cons_zero, List.set_cons_succ]
                      refine wpAnyH_ready (rs := [6]) (by kernel_rfl) (by simp) ?_
                      refine AllReadyH.cons rfl (fun K hK => ?_) (AllReadyH.nil)
                      go_simp
                      (first | (go_at_call 16; (first | (with_reducible refine (HC1.out _).mono ?_) | (with_reducible refine (HC3.out _).mono ?_)); rintro e w8 ⟨rfl, hb8⟩; have HN := Lib.hid (HN.out.call hb8); clear hb8) | (go_at_call 18; with_reducible refine (HC2.out _).mono ?_; rintro e w8 ⟨rfl, hb8⟩; have HN := Lib.hid (HN.out.call hb8); clear hb8) | (refine Cp.stepAlloc (T := 24) (cs := #[.int .u64 0, .int .u64 0, .int .u64 0, .int .u64 0]) rfl rfl (by intro u; kernel_rfl) HN.out ?_; intro g8 w8 hst8; have HN := Lib.hid hst8; clear hst8) | (refine St.stepRow rfl 24 (.tmp 10) (.tmp 42) rfl _ #[.int .u64 i0, .int .u64 i1, .int .u64 i2, .int .u64 i3] rfl rfl HN.out Cs.clInfo rfl (by simp [Value.oneCell']) ?_; intro w8 hst8; have HN := Lib.hid hst8; clear hst8) | (refine St.stepRow rfl 24 (.tmp 10) (.tmp 42) rfl _ #[.int .u64 i0, .int .u64 i1, .int .u64 i2, .int .u64 i3] rfl rfl HN.out.get2 Cs.clInfo rfl (by simp [Value.oneCell']) ?_; intro w8 hst8; have HN := Lib.hid hst8; clear hst8) | (refine St.stepRow rfl 24 (.tmp 11) (.tmp 46) rfl _ #[.int .u64 o0, .int .u64 o1, .int .u64 o2, .int .u64 o3] rfl rfl HN.out.get2 Cs.clInfo rfl (by simp [Value.oneCell']) ?_; intro w8 hst8; have HN := Lib.hid hst8; clear hst8))
                      refine hK.out _ _ ?_ (fun hHeld => ?_)
                      · (try dsimp only); (exact ⟨bkeep HN.out.bel x0, bkeep HN.out.bel x1, bkeep HN.out.bel x2, bkeep HN.out.bel x3, bkeep HN.out.bel z0, bkeep HN.out.bel z1, bkeep HN.out.bel z2, bkeep HN.out.bel z3⟩)
                      clear hK K
                      try simp only [List.getElem_toArray, List.getElem_cons_zero, List.getElem_cons_succ, Act.put, List.setIfInBounds_toArray, List.set_cons_zero, List.set_cons_succ]
                      refine wpAnyH_ready (rs := [9]) (by kernel_rfl) (by simp) ?_
                      refine AllReadyH.cons rfl (fun K hK => ?_) AllReadyH.nil
                      (first | (go_at_call 16; (first | (with_reducible refine (HC1.out _).mono ?_) | (with_reducible refine (HC3.out _).mono ?_)); rintro e w8 ⟨rfl, hb8⟩; have HN := Lib.hid (HN.out.call hb8); clear hb8) | (go_at_call 18; with_reducible refine (HC2.out _).mono ?_; rintro e w8 ⟨rfl, hb8⟩; have HN := Lib.hid (HN.out.call hb8); clear hb8) | (refine Cp.stepAlloc (T := 24) (cs := #[.int .u64 0, .int .u64 0, .int .u64 0, .int .u64 0]) rfl rfl (by intro u; kernel_rfl) HN.out ?_; intro g8 w8 hst8; have HN := Lib.hid hst8; clear hst8) | (refine St.stepRow rfl 24 (.tmp 10) (.tmp 42) rfl _ #[.int .u64 i0, .int .u64 i1, .int .u64 i2, .int .u64 i3] rfl rfl HN.out Cs.clInfo rfl (by simp [Value.oneCell']) ?_; intro w8 hst8; have HN := Lib.hid hst8; clear hst8) | (refine St.stepRow rfl 24 (.tmp 10) (.tmp 42) rfl _ #[.int .u64 i0, .int .u64 i1, .int .u64 i2, .int .u64 i3] rfl rfl HN.out.get2 Cs.clInfo rfl (by simp [Value.oneCell']) ?_; intro w8 hst8; have HN := Lib.hid hst8; clear hst8) | (refine St.stepRow rfl 24 (.tmp 11) (.tmp 46) rfl _ #[.int .u64 o0, .int .u64 o1, .int .u64 o2, .int .u64 o3] rfl rfl HN.out.get2 Cs.clInfo rfl (by simp [Value.oneCell']) ?_; intro w8 hst8; have HN := Lib.hid hst8; clear hst8))
                      refine hK.out _ _ ?_ (fun hHeld => ?_)
                      · (try dsimp only); (exact ⟨bkeep HN.out.bel x0, bkeep HN.out.bel x1, bkeep HN.out.bel x2, bkeep HN.out.bel x3, bkeep HN.out.bel z0, bkeep HN.out.bel z1, bkeep HN.out.bel z2, bkeep HN.out.bel z3⟩)
                      clear hK K
                      try simp only [List.getElem_toArray, List.getElem_cons_zero, List.getElem_cons_succ, Act.put, List.setIfInBounds_toArray, List.set_cons_zero, List.set_cons_succ]
                      refine wpAnyH_ready (rs := [10]) (by kernel_rfl) (by simp) ?_
                      refine AllReadyH.cons rfl (fun K hK => ?_) AllReadyH.nil
                      (first | (go_at_call 16; (first | (with_reducible refine (HC1.out _).mono ?_) | (with_reducible refine (HC3.out _).mono ?_)); rintro e w8 ⟨rfl, hb8⟩; have HN := Lib.hid (HN.out.call hb8); clear hb8) | (go_at_call 18; with_reducible refine (HC2.out _).mono ?_; rintro e w8 ⟨rfl, hb8⟩; have HN := Lib.hid (HN.out.call hb8); clear hb8) | (refine Cp.stepAlloc (T := 24) (cs := #[.int .u64 0, .int .u64 0, .int .u64 0, .int .u64 0]) rfl rfl (by intro u; kernel_rfl) HN.out ?_; intro g8 w8 hst8; have HN := Lib.hid hst8; clear hst8) | (refine St.stepRow rfl 24 (.tmp 10) (.tmp 42) rfl _ #[.int .u64 i0, .int .u64 i1, .int .u64 i2, .int .u64 i3] rfl rfl HN.out Cs.clInfo rfl (by simp [Value.oneCell']) ?_; intro w8 hst8; have HN := Lib.hid hst8; clear hst8) | (refine St.stepRow rfl 24 (.tmp 10) (.tmp 42) rfl _ #[.int .u64 i0, .int .u64 i1, .int .u64 i2, .int .u64 i3] rfl rfl HN.out.get2 Cs.clInfo rfl (by simp [Value.oneCell']) ?_; intro w8 hst8; have HN := Lib.hid hst8; clear hst8) | (refine St.stepRow rfl 24 (.tmp 11) (.tmp 46) rfl _ #[.int .u64 o0, .int .u64 o1, .int .u64 o2, .int .u64 o3] rfl rfl HN.out.get2 Cs.clInfo rfl (by simp [Value.oneCell']) ?_; intro w8 hst8; have HN := Lib.hid hst8; clear hst8))
                      refine hK.out _ _ ?_ (fun hHeld => ?_)
                      · (try dsimp only); (exact ⟨bkeep HN.out.bel x0, bkeep HN.out.bel x1, bkeep HN.out.bel x2, bkeep HN.out.bel x3, bkeep HN.out.bel z0, bkeep HN.out.bel z1, bkeep HN.out.bel z2, bkeep HN.out.bel z3⟩)
                      clear hK K
                      try simp only [List.getElem_toArray, List.getElem_cons_zero, List.getElem_cons_succ, Act.put, List.setIfInBounds_toArray, List.set_cons_zero, List.set_cons_succ]
                      refine wpAnyH_done (by kernel_rfl) ?_ _
                      exact REST _ _ _ (HST.out.join HN.out)
                · skip
                  (first | (go_at_call 16; (first | (with_reducible refine (HC1.out _).mono ?_) | (with_reducible refine (HC3.out _).mono ?_)); rintro e w8 ⟨rfl, hb8⟩; have HN := Lib.hid (HN.out.call hb8); clear hb8) | (go_at_call 18; with_reducible refine (HC2.out _).mono ?_; rintro e w8 ⟨rfl, hb8⟩; have HN := Lib.hid (HN.out.call hb8); clear hb8) | (refine Cp.stepAlloc (T := 24) (cs := #[.int .u64 0, .int .u64 0, .int .u64 0, .int .u64 0]) rfl rfl (by intro u; kernel_rfl) HN.out ?_; intro g8 w8 hst8; have HN := Lib.hid hst8; clear hst8) | (refine St.stepRow rfl 24 (.tmp 10) (.tmp 42) rfl _ #[.int .u64 i0, .int .u64 i1, .int .u64 i2, .int .u64 i3] rfl rfl HN.out Cs.clInfo rfl (by simp [Value.oneCell']) ?_; intro w8 hst8; have HN := Lib.hid hst8; clear hst8) | (refine St.stepRow rfl 24 (.tmp 10) (.tmp 42) rfl _ #[.int .u64 i0, .int .u64 i1, .int .u64 i2, .int .u64 i3] rfl rfl HN.out.get2 Cs.clInfo rfl (by simp [Value.oneCell']) ?_; intro w8 hst8; have HN := Lib.hid hst8; clear hst8) | (refine St.stepRow rfl 24 (.tmp 11) (.tmp 46) rfl _ #[.int .u64 o0, .int .u64 o1, .int .u64 o2, .int .u64 o3] rfl rfl HN.out.get2 Cs.clInfo rfl (by simp [Value.oneCell']) ?_; intro w8 hst8; have HN := Lib.hid hst8; clear hst8))
                  refine hK.out _ _ ?_ (fun hHeld => ?_)
                  · (try dsimp only); (exact ⟨bkeep HN.out.bel x0, bkeep HN.out.bel x1, bkeep HN.out.bel x2, bkeep HN.out.bel x3, bkeep HN.out.bel z0, bkeep HN.out.bel z1, bkeep HN.out.bel z2, bkeep HN.out.bel z3⟩)
                  clear hK K
                  try simp only [List.getElem_toArray, List.getElem_cons_zero, List.getElem_cons_succ, Act.put, List.setIfInBounds_toArray, List.set_cons_zero, List.set_cons_succ]
                  refine wpAnyH_ready (rs := [5, 8]) (by kernel_rfl) (by simp) ?_
                  refine AllReadyH.cons rfl (fun K hK => ?_) (AllReadyH.cons rfl (fun K hK => ?_) (AllReadyH.nil))
                  · skip
                    go_simp
                    (first | (go_at_call 16; (first | (with_reducible refine (HC1.out _).mono ?_) | (with_reducible refine (HC3.out _).mono ?_)); rintro e w8 ⟨rfl, hb8⟩; have HN := Lib.hid (HN.out.call hb8); clear hb8) | (go_at_call 18; with_reducible refine (HC2.out _).mono ?_; rintro e w8 ⟨rfl, hb8⟩; have HN := Lib.hid (HN.out.call hb8); clear hb8) | (refine Cp.stepAlloc (T := 24) (cs := #[.int .u64 0, .int .u64 0, .int .u64 0, .int .u64 0]) rfl rfl (by intro u; kernel_rfl) HN.out ?_; intro g8 w8 hst8; have HN := Lib.hid hst8; clear hst8) | (refine St.stepRow rfl 24 (.tmp 10) (.tmp 42) rfl _ #[.int .u64 i0, .int .u64 i1, .int .u64 i2, .int .u64 i3] rfl rfl HN.out Cs.clInfo rfl (by simp [Value.oneCell']) ?_; intro w8 hst8; have HN := Lib.hid hst8; clear hst8) | (refine St.stepRow rfl 24 (.tmp 10) (.tmp 42) rfl _ #[.int .u64 i0, .int .u64 i1, .int .u64 i2, .int .u64 i3] rfl rfl HN.out.get2 Cs.clInfo rfl (by simp [Value.oneCell']) ?_; intro w8 hst8; have HN := Lib.hid hst8; clear hst8) | (refine St.stepRow rfl 24 (.tmp 11) (.tmp 46) rfl _ #[.int .u64 o0, .int .u64 o1, .int .u64 o2, .int .u64 o3] rfl rfl HN.out.get2 Cs.clInfo rfl (by simp [Value.oneCell']) ?_; intro w8 hst8; have HN := Lib.hid hst8; clear hst8))
                    refine hK.out _ _ ?_ (fun hHeld => ?_)
                    · (try dsimp only); (exact ⟨bkeep HN.out.bel x0, bkeep HN.out.bel x1, bkeep HN.out.bel x2, bkeep HN.out.bel x3, bkeep HN.out.bel z0, bkeep HN.out.bel z1, bkeep HN.out.bel z2, bkeep HN.out.bel z3⟩)
                    clear hK K
                    try simp only [List.getElem_toArray, List.getElem_cons_zero, List.getElem_cons_succ, Act.put, List.setIfInBounds_toArray, List.set_cons_zero, List.set_cons_succ]
                    refine wpAnyH_ready (rs := [6, 8]) (by kernel_rfl) (by simp) ?_
                    refine AllReadyH.cons rfl (fun K hK => ?_) (AllReadyH.cons rfl (fun K hK => ?_) (AllReadyH.nil))
                    · skip
                      go_simp
                      (first | (go_at_call 16; (first | (with_reducible refine (HC1.out _).mono ?_) | (with_reducible refine (HC3.out _).mono ?_)); rintro e w8 ⟨rfl, hb8⟩; have HN := Lib.hid (HN.out.call hb8); clear hb8) | (go_at_call 18; with_reducible refine (HC2.out _).mono ?_; rintro e w8 ⟨rfl, hb8⟩; have HN := Lib.hid (HN.out.call hb8); clear hb8) | (refine Cp.stepAlloc (T := 24) (cs := #[.int .u64 0, .int .u64 0, .int .u64 0, .int .u64 0]) rfl rfl (by intro u; kernel_rfl) HN.out ?_; intro g8 w8 hst8; have HN := Lib.hid hst8; clear hst8) | (refine St.stepRow rfl 24 (.tmp 10) (.tmp 42) rfl _ #[.int .u64 i0, .int .u64 i1, .int .u64 i2, .int .u64 i3] rfl rfl HN.out Cs.clInfo rfl (by simp [Value.oneCell']) ?_; intro w8 hst8; have HN := Lib.hid hst8; clear hst8) | (refine St.stepRow rfl 24 (.tmp 10) (.tmp 42) rfl _ #[.int .u64 i0, .int .u64 i1, .int .u64 i2, .int .u64 i3] rfl rfl HN.out.get2 Cs.clInfo rfl (by simp [Value.oneCell']) ?_; intro w8 hst8; have HN := Lib.hid hst8; clear hst8) | (refine St.stepRow rfl 24 (.tmp 11) (.tmp 46) rfl _ #[.int .u64 o0, .int .u64 o1, .int .u64 o2, .int .u64 o3] rfl rfl HN.out.get2 Cs.clInfo rfl (by simp [Value.oneCell']) ?_; intro w8 hst8; have HN := Lib.hid hst8; clear hst8))
                      refine hK.out _ _ ?_ (fun hHeld => ?_)
                      · (try dsimp only); (exact ⟨bkeep HN.out.bel x0, bkeep HN.out.bel x1, bkeep HN.out.bel x2, bkeep HN.out.bel x3, bkeep HN.out.bel z0, bkeep HN.out.bel z1, bkeep HN.out.bel z2, bkeep HN.out.bel z3⟩)
                      clear hK K
                      try simp only [List.getElem_toArray, List.getElem_cons_zero, List.getElem_cons_succ, Act.put, List.setIfInBounds_toArray, List.set_cons_zero, List.set_cons_succ]
                      refine wpAnyH_ready (rs := [8]) (by kernel_rfl) (by simp) ?_
                      refine AllReadyH.cons rfl (fun K hK => ?_) (AllReadyH.nil)
                      (first | (go_at_call 16; (first | (with_reducible refine (HC1.out _).mono ?_) | (with_reducible refine (HC3.out _).mono ?_)); rintro e w8 ⟨rfl, hb8⟩; have HN := Lib.hid (HN.out.call hb8); clear hb8) | (go_at_call 18; with_reducible refine (HC2.out _).mono ?_; rintro e w8 ⟨rfl, hb8⟩; have HN := Lib.hid (HN.out.call hb8); clear hb8) | (refine Cp.stepAlloc (T := 24) (cs := #[.int .u64 0, .int .u64 0, .int .u64 0, .int .u64 0]) rfl rfl (by intro u; kernel_rfl) HN.out ?_; intro g8 w8 hst8; have HN := Lib.hid hst8; clear hst8) | (refine St.stepRow rfl 24 (.tmp 10) (.tmp 42) rfl _ #[.int .u64 i0, .int .u64 i1, .int .u64 i2, .int .u64 i3] rfl rfl HN.out Cs.clInfo rfl (by simp [Value.oneCell']) ?_; intro w8 hst8; have HN := Lib.hid hst8; clear hst8) | (refine St.stepRow rfl 24 (.tmp 10) (.tmp 42) rfl _ #[.int .u64 i0, .int .u64 i1, .int .u64 i2, .int .u64 i3] rfl rfl HN.out.get2 Cs.clInfo rfl (by simp [Value.oneCell']) ?_; intro w8 hst8; have HN := Lib.hid hst8; clear hst8) | (refine St.stepRow rfl 24 (.tmp 11) (.tmp 46) rfl _ #[.int .u64 o0, .int .u64 o1, .int .u64 o2, .int .u64 o3] rfl rfl HN.out.get2 Cs.clInfo rfl (by simp [Value.oneCell']) ?_; intro w8 hst8; have HN := Lib.hid hst8; clear hst8))
                      refine hK.out _ _ ?_ (fun hHeld => ?_)
                      · (try dsimp only); (exact ⟨bkeep HN.out.bel x0, bkeep HN.out.bel x1, bkeep HN.out.bel x2, bkeep HN.out.bel x3, bkeep HN.out.bel z0, bkeep HN.out.bel z1, bkeep HN.out.bel z2, bkeep HN.out.bel z3⟩)
                      clear hK K
                      try simp only [List.getElem_toArray, List.getElem_cons_zero, List.getElem_cons_succ, Act.put, List.setIfInBounds_toArray, List.set_cons_zero, List.set_cons_succ]
                      refine wpAnyH_ready (rs := [9]) (by kernel_rfl) (by simp) ?_
                      refine AllReadyH.cons rfl (fun K hK => ?_) AllReadyH.nil
                      (first | (go_at_call 16; (first | (with_reducible refine (HC1.out _).mono ?_) | (with_reducible refine (HC3.out _).mono ?_)); rintro e w8 ⟨rfl, hb8⟩; have HN := Lib.hid (HN.out.call hb8); clear hb8) | (go_at_call 18; with_reducible refine (HC2.out _).mono ?_; rintro e w8 ⟨rfl, hb8⟩; have HN := Lib.hid (HN.out.call hb8); clear hb8) | (refine Cp.stepAlloc (T := 24) (cs := #[.int .u64 0, .int .u64 0, .int .u64 0, .int .u64 0]) rfl rfl (by intro u; kernel_rfl) HN.out ?_; intro g8 w8 hst8; have HN := Lib.hid hst8; clear hst8) | (refine St.stepRow rfl 24 (.tmp 10) (.tmp 42) rfl _ #[.int .u64 i0, .int .u64 i1, .int .u64 i2, .int .u64 i3] rfl rfl HN.out Cs.clInfo rfl (by simp [Value.oneCell']) ?_; intro w8 hst8; have HN := Lib.hid hst8; clear hst8) | (refine St.stepRow rfl 24 (.tmp 10) (.tmp 42) rfl _ #[.int .u64 i0, .int .u64 i1, .int .u64 i2, .int .u64 i3] rfl rfl HN.out.get2 Cs.clInfo rfl (by simp [Value.oneCell']) ?_; intro w8 hst8; have HN := Lib.hid hst8; clear hst8) | (refine St.stepRow rfl 24 (.tmp 11) (.tmp 46) rfl _ #[.int .u64 o0, .int .u64 o1, .int .u64 o2, .int .u64 o3] rfl rfl HN.out.get2 Cs.clInfo rfl (by simp [Value.oneCell']) ?_; intro w8 hst8; have HN := Lib.hid hst8; clear hst8))
                      refine hK.out _ _ ?_ (fun hHeld => ?_)
                      · (try dsimp only); (exact ⟨bkeep HN.out.bel x0, bkeep HN.out.bel x1, bkeep HN.out.bel x2, bkeep HN.out.bel x3, bkeep HN.out.bel z0, bkeep HN.out.bel z1, bkeep HN.out.bel z2, bkeep HN.out.bel z3⟩)
                      clear hK K
                      try simp only [List.getElem_toArray, List.getElem_cons_zero, List.getElem_cons_succ, Act.put, List.setIfInBounds_toArray, List.set_cons_zero, List.set_cons_succ]
                      refine wpAnyH_ready (rs := [10]) (by kernel_rfl) (by simp) ?_
                      refine AllReadyH.cons rfl (fun K hK => ?_) AllReadyH.nil
                      (first | (go_at_call 16; (first | (with_reducible refine (HC1.out _).mono ?_) | (with_reducible refine (HC3.out _).mono ?_)); rintro e w8 ⟨rfl, hb8⟩; have HN := Lib.hid (HN.out.call hb8); clear hb8) | (go_at_call 18; with_reducible refine (HC2.out _).mono ?_; rintro e w8 ⟨rfl, hb8⟩; have HN := Lib.hid (HN.out.call hb8); clear hb8) | (refine Cp.stepAlloc (T := 24) (cs := #[.int .u64 0, .int .u64 0, .int .u64 0, .int .u64 0]) rfl rfl (by intro u; kernel_rfl) HN.out ?_; intro g8 w8 hst8; have HN := Lib.hid hst8; clear hst8) | (refine St.stepRow rfl 24 (.tmp 10) (.tmp 42) rfl _ #[.int .u64 i0, .int .u64 i1, .int .u64 i2, .int .u64 i3] rfl rfl HN.out Cs.clInfo rfl (by simp [Value.oneCell']) ?_; intro w8 hst8; have HN := Lib.hid hst8; clear hst8) | (refine St.stepRow rfl 24 (.tmp 10) (.tmp 42) rfl _ #[.int .u64 i0, .int .u64 i1, .int .u64 i2, .int .u64 i3] rfl rfl HN.out.get2 Cs.clInfo rfl (by simp [Value.oneCell']) ?_; intro w8 hst8; have HN := Lib.hid hst8; clear hst8) | (refine St.stepRow rfl 24 (.tmp 11) (.tmp 46) rfl _ #[.int .u64 o0, .int .u64 o1, .int .u64 o2, .int .u64 o3] rfl rfl HN.out.get2 Cs.clInfo rfl (by simp [Value.oneCell']) ?_; intro w8 hst8; have HN := Lib.hid hst8; clear hst8))
                      refine hK.out _ _ ?_ (fun hHeld => ?_)
                      · (try dsimp only); (exact ⟨bkeep HN.out.bel x0, bkeep HN.out.bel x1, bkeep HN.out.bel x2, bkeep HN.out.bel x3, bkeep HN.out.bel z0, bkeep HN.out.bel z1, bkeep HN.out.bel z2, bkeep HN.out.bel z3⟩)
                      clear hK K
                      try simp only [List.getElem_toArray, List.getElem_cons_zero, List.getElem_cons_succ, Act.put, List.setIfInBounds_toArray, List.set_cons_zero, List.set_cons_succ]
                      refine wpAnyH_done (by kernel_rfl) ?_ _
                      exact REST _ _ _ (HST.out.join HN.out)
                    · skip
                      (first | (go_at_call 16; (first | (with_reducible refine (HC1.out _).mono ?_) | (with_reducible refine (HC3.out _).mono ?_)); rintro e w8 ⟨rfl, hb8⟩; have HN := Lib.hid (HN.out.call hb8); clear hb8) | (go_at_call 18; with_reducible refine (HC2.out _).mono ?_; rintro e w8 ⟨rfl, hb8⟩; have HN := Lib.hid (HN.out.call hb8); clear hb8) | (refine Cp.stepAlloc (T := 24) (cs := #[.int .u64 0, .int .u64 0, .int .u64 0, .int .u64 0]) rfl rfl (by intro u; kernel_rfl) HN.out ?_; intro g8 w8 hst8; have HN := Lib.hid hst8; clear hst8) | (refine St.stepRow rfl 24 (.tmp 10) (.tmp 42) rfl _ #[.int .u64 i0, .int .u64 i1, .int .u64 i2, .int .u64 i3] rfl rfl HN.out Cs.clInfo rfl (by simp [Value.oneCell']) ?_; intro w8 hst8; have HN := Lib.hid hst8; clear hst8) | (refine St.stepRow rfl 24 (.tmp 10) (.tmp 42) rfl _ #[.int .u64 i0, .int .u64 i1, .int .u64 i2, .int .u64 i3] rfl rfl HN.out.get2 Cs.clInfo rfl (by simp [Value.oneCell']) ?_; intro w8 hst8; have HN := Lib.hid hst8; clear hst8) | (refine St.stepRow rfl 24 (.tmp 11) (.tmp 46) rfl _ #[.int .u64 o0, .int .u64 o1, .int .u64 o2, .int .u64 o3] rfl rfl HN.out.get2 Cs.clInfo rfl (by simp [Value.oneCell']) ?_; intro w8 hst8; have HN := Lib.hid hst8; clear hst8))
                      refine hK.out _ _ ?_ (fun hHeld => ?_)
                      · (try dsimp only); (exact ⟨bkeep HN.out.bel x0, bkeep HN.out.bel x1, bkeep HN.out.bel x2, bkeep HN.out.bel x3, bkeep HN.out.bel z0, bkeep HN.out.bel z1, bkeep HN.out.bel z2, bkeep HN.out.bel z3⟩)
                      clear hK K
                      try simp only [List.getElem_toArray, List.getElem_cons_zero, List.getElem_cons_succ, Act.put, List.setIfInBounds_toArray, List.set_cons_zero, List.set_cons_succ]
                      refine wpAnyH_ready (rs := [6]) (by kernel_rfl) (by simp) ?_
                      refine AllReadyH.cons rfl (fun K hK => ?_) (AllReadyH.nil)
                      go_simp
                      (first | (go_at_call 16; (first | (with_reducible refine (HC1.out _).mono ?_) | (with_reducible refine (HC3.out _).mono ?_)); rintro e w8 ⟨rfl, hb8⟩; have HN := Lib.hid (HN.out.call hb8); clear hb8) | (go_at_call 18; with_reducible refine (HC2.out _).mono ?_; rintro e w8 ⟨rfl, hb8⟩; have HN := Lib.hid (HN.out.call hb8); clear hb8) | (refine Cp.stepAlloc (T := 24) (cs := #[.int .u64 0, .int .u64 0, .int .u64 0, .int .u64 0]) rfl rfl (by intro u; kernel_rfl) HN.out ?_; intro g8 w8 hst8; have HN := Lib.hid hst8; clear hst8) | (refine St.stepRow rfl 24 (.tmp 10) (.tmp 42) rfl _ #[.int .u64 i0, .int .u64 i1, .int .u64 i2, .int .u64 i3] rfl rfl HN.out Cs.clInfo rfl (by simp [Value.oneCell']) ?_; intro w8 hst8; have HN := Lib.hid hst8; clear hst8) | (refine St.stepRow rfl 24 (.tmp 10) (.tmp 42) rfl _ #[.int .u64 i0, .int .u64 i1, .int .u64 i2, .int .u64 i3] rfl rfl HN.out.get2 Cs.clInfo rfl (by simp [Value.oneCell']) ?_; intro w8 hst8; have HN := Lib.hid hst8; clear hst8) | (refine St.stepRow rfl 24 (.tmp 11) (.tmp 46) rfl _ #[.int .u64 o0, .int .u64 o1, .int .u64 o2, .int .u64 o3] rfl rfl HN.out.get2 Cs.clInfo rfl (by simp [Value.oneCell']) ?_; intro w8 hst8; have HN := Lib.hid hst8; clear hst8))
                      refine hK.out _ _ ?_ (fun hHeld => ?_)
                      · (try dsimp only); (exact ⟨bkeep HN.out.bel x0, bkeep HN.out.bel x1, bkeep HN.out.bel x2, bkeep HN.out.bel x3, bkeep HN.out.bel z0, bkeep HN.out.bel z1, bkeep HN.out.bel z2, bkeep HN.out.bel z3⟩)
                      clear hK K
                      try simp only [List.getElem_toArray, List.getElem_cons_zero, List.getElem_cons_succ, Act.put, List.setIfInBounds_toArray, List.set_cons_zero, List.set_cons_succ]
                      refine wpAnyH_ready (rs := [9]) (by kernel_rfl) (by simp) ?_
                      refine AllReadyH.cons rfl (fun K hK => ?_) AllReadyH.nil
                      (first | (go_at_call 16; (first | (with_reducible refine (HC1.out _).mono ?_) | (with_reducible refine (HC3.out _).mono ?_)); rintro e w8 ⟨rfl, hb8⟩; have HN := Lib.hid (HN.out.call hb8); clear hb8) | (go_at_call 18; with_reducible refine (HC2.out _).mono ?_; rintro e w8 ⟨rfl, hb8⟩; have HN := Lib.hid (HN.out.call hb8); clear hb8) | (refine Cp.stepAlloc (T := 24) (cs := #[.int .u64 0, .int .u64 0, .int .u64 0, .int .u64 0]) rfl rfl (by intro u; kernel_rfl) HN.out ?_; intro g8 w8 hst8; have HN := Lib.hid hst8; clear hst8) | (refine St.stepRow rfl 24 (.tmp 10) (.tmp 42) rfl _ #[.int .u64 i0, .int .u64 i1, .int .u64 i2, .int .u64 i3] rfl rfl HN.out Cs.clInfo rfl (by simp [Value.oneCell']) ?_; intro w8 hst8; have HN := Lib.hid hst8; clear hst8) | (refine St.stepRow rfl 24 (.tmp 10) (.tmp 42) rfl _ #[.int .u64 i0, .int .u64 i1, .int .u64 i2, .int .u64 i3] rfl rfl HN.out.get2 Cs.clInfo rfl (by simp [Value.oneCell']) ?_; intro w8 hst8; have HN := Lib.hid hst8; clear hst8) | (refine St.stepRow rfl 24 (.tmp 11) (.tmp 46) rfl _ #[.int .u64 o0, .int .u64 o1, .int .u64 o2, .int .u64 o3] rfl rfl HN.out.get2 Cs.clInfo rfl (by simp [Value.oneCell']) ?_; intro w8 hst8; have HN := Lib.hid hst8; clear hst8))
                      refine hK.out _ _ ?_ (fun hHeld => ?_)
                      · (try dsimp only); (exact ⟨bkeep HN.out.bel x0, bkeep HN.out.bel x1, bkeep HN.out.bel x2, bkeep HN.out.bel x3, bkeep HN.out.bel z0, bkeep HN.out.bel z1, bkeep HN.out.bel z2, bkeep HN.out.bel z3⟩)
                      clear hK K
                      try simp only [List.getElem_toArray, List.getElem_cons_zero, List.getElem_cons_succ, Act.put, List.setIfInBounds_toArray, List.set_cons_zero, List.set_cons_succ]
                      refine wpAnyH_ready (rs := [10]) (by kernel_rfl) (by simp) ?_
                      refine AllReadyH.cons rfl (fun K hK => ?_) AllReadyH.nil
                      (first | (go_at_call 16; (first | (with_reducible refine (HC1.out _).mono ?_) | (with_reducible refine (HC3.out _).mono ?_)); rintro e w8 ⟨rfl, hb8⟩; have HN := Lib.hid (HN.out.call hb8); clear hb8) | (go_at_call 18; with_reducible refine (HC2.out _).mono ?_; rintro e w8 ⟨rfl, hb8⟩; have HN := Lib.hid (HN.out.call hb8); clear hb8) | (refine Cp.stepAlloc (T := 24) (cs := #[.int .u64 0, .int .u64 0, .int .u64 0, .int .u64 0]) rfl rfl (by intro u; kernel_rfl) HN.out ?_; intro g8 w8 hst8; have HN := Lib.hid hst8; clear hst8) | (refine St.stepRow rfl 24 (.tmp 10) (.tmp 42) rfl _ #[.int .u64 i0, .int .u64 i1, .int .u64 i2, .int .u64 i3] rfl rfl HN.out Cs.clInfo rfl (by simp [Value.oneCell']) ?_; intro w8 hst8; have HN := Lib.hid hst8; clear hst8) | (refine St.stepRow rfl 24 (.tmp 10) (.tmp 42) rfl _ #[.int .u64 i0, .int .u64 i1, .int .u64 i2, .int .u64 i3] rfl rfl HN.out.get2 Cs.clInfo rfl (by simp [Value.oneCell']) ?_; intro w8 hst8; have HN := Lib.hid hst8; clear hst8) | (refine St.stepRow rfl 24 (.tmp 11) (.tmp 46) rfl _ #[.int .u64 o0, .int .u64 o1, .int .u64 o2, .int .u64 o3] rfl rfl HN.out.get2 Cs.clInfo rfl (by simp [Value.oneCell']) ?_; intro w8 hst8; have HN := Lib.hid hst8; clear hst8))
                      refine hK.out _ _ ?_ (fun hHeld => ?_)
                      · (try dsimp only); (exact ⟨bkeep HN.out.bel x0, bkeep HN.out.bel x1, bkeep HN.out.bel x2, bkeep HN.out.bel x3, bkeep HN.out.bel z0, bkeep HN.out.bel z1, bkeep HN.out.bel z2, bkeep HN.out.bel z3⟩)
                      clear hK K
                      try simp only [List.getElem_toArray, List.getElem_cons_zero, List.getElem_cons_succ, Act.put, List.setIfInBounds_toArray, List.set_cons_zero, List.set_cons_succ]
                      refine wpAnyH_done (by kernel_rfl) ?_ _
                      exact REST _ _ _ (HST.out.join HN.out)
                  · skip
                    (first | (go_at_call 16; (first | (with_reducible refine (HC1.out _).mono ?_) | (with_reducible refine (HC3.out _).mono ?_)); rintro e w8 ⟨rfl, hb8⟩; have HN := Lib.hid (HN.out.call hb8); clear hb8) | (go_at_call 18; with_reducible refine (HC2.out _).mono ?_; rintro e w8 ⟨rfl, hb8⟩; have HN := Lib.hid (HN.out.call hb8); clear hb8) | (refine Cp.stepAlloc (T := 24) (cs := #[.int .u64 0, .int .u64 0, .int .u64 0, .int .u64 0]) rfl rfl (by intro u; kernel_rfl) HN.out ?_; intro g8 w8 hst8; have HN := Lib.hid hst8; clear hst8) | (refine St.stepRow rfl 24 (.tmp 10) (.tmp 42) rfl _ #[.int .u64 i0, .int .u64 i1, .int .u64 i2, .int .u64 i3] rfl rfl HN.out Cs.clInfo rfl (by simp [Value.oneCell']) ?_; intro w8 hst8; have HN := Lib.hid hst8; clear hst8) | (refine St.stepRow rfl 24 (.tmp 10) (.tmp 42) rfl _ #[.int .u64 i0, .int .u64 i1, .int .u64 i2, .int .u64 i3] rfl rfl HN.out.get2 Cs.clInfo rfl (by simp [Value.oneCell']) ?_; intro w8 hst8; have HN := Lib.hid hst8; clear hst8) | (refine St.stepRow rfl 24 (.tmp 11) (.tmp 46) rfl _ #[.int .u64 o0, .int .u64 o1, .int .u64 o2, .int .u64 o3] rfl rfl HN.out.get2 Cs.clInfo rfl (by simp [Value.oneCell']) ?_; intro w8 hst8; have HN := Lib.hid hst8; clear hst8))
                    refine hK.out _ _ ?_ (fun hHeld => ?_)
                    · (try dsimp only); (exact ⟨bkeep HN.out.bel x0, bkeep HN.out.bel x1, bkeep HN.out.bel x2, bkeep HN.out.bel x3, bkeep HN.out.bel z0, bkeep HN.out.bel z1, bkeep HN.out.bel z2, bkeep HN.out.bel z3⟩)
                    clear hK K
                    try simp only [List.getElem_toArray, List.getElem_cons_zero, List.getElem_cons_succ, Act.put, List.setIfInBounds_toArray, List.set_cons_zero, List.set_cons_succ]
                    refine wpAnyH_ready (rs := [5]) (by kernel_rfl) (by simp) ?_
                    refine AllReadyH.cons rfl (fun K hK => ?_) (AllReadyH.nil)
                    go_simp
                    (first | (go_at_call 16; (first | (with_reducible refine (HC1.out _).mono ?_) | (with_reducible refine (HC3.out _).mono ?_)); rintro e w8 ⟨rfl, hb8⟩; have HN := Lib.hid (HN.out.call hb8); clear hb8) | (go_at_call 18; with_reducible refine (HC2.out _).mono ?_; rintro e w8 ⟨rfl, hb8⟩; have HN := Lib.hid (HN.out.call hb8); clear hb8) | (refine Cp.stepAlloc (T := 24) (cs := #[.int .u64 0, .int .u64 0, .int .u64 0, .int .u64 0]) rfl rfl (by intro u; kernel_rfl) HN.out ?_; intro g8 w8 hst8; have HN := Lib.hid hst8; clear hst8) | (refine St.stepRow rfl 24 (.tmp 10) (.tmp 42) rfl _ #[.int .u64 i0, .int .u64 i1, .int .u64 i2, .int .u64 i3] rfl rfl HN.out Cs.clInfo rfl (by simp [Value.oneCell']) ?_; intro w8 hst8; have HN := Lib.hid hst8; clear hst8) | (refine St.stepRow rfl 24 (.tmp 10) (.tmp 42) rfl _ #[.int .u64 i0, .int .u64 i1, .int .u64 i2, .int .u64 i3] rfl rfl HN.out.get2 Cs.clInfo rfl (by simp [Value.oneCell']) ?_; intro w8 hst8; have HN := Lib.hid hst8; clear hst8) | (refine St.stepRow rfl 24 (.tmp 11) (.tmp 46) rfl _ #[.int .u64 o0, .int .u64 o1, .int .u64 o2, .int .u64 o3] rfl rfl HN.out.get2 Cs.clInfo rfl (by simp [Value.oneCell']) ?_; intro w8 hst8; have HN := Lib.hid hst8; clear hst8))
                    refine hK.out _ _ ?_ (fun hHeld => ?_)
                    · (try dsimp only); (exact ⟨bkeep HN.out.bel x0, bkeep HN.out.bel x1, bkeep HN.out.bel x2, bkeep HN.out.bel x3, bkeep HN.out.bel z0, bkeep HN.out.bel z1, bkeep HN.out.bel z2, bkeep HN.out.bel z3⟩)
                    clear hK K
                    try simp only [List.getElem_toArray, List.getElem_cons_zero, List.getElem_cons_succ, Act.put, List.setIfInBounds_toArray, List.set_cons_zero, List.set_cons_succ]
                    refine wpAnyH_ready (rs := [6]) (by kernel_rfl) (by simp) ?_
                    refine AllReadyH.cons rfl (fun K hK => ?_) (AllReadyH.nil)
                    go_simp
                    (first | (go_at_call 16; (first | (with_reducible refine (HC1.out _).mono ?_) | (with_reducible refine (HC3.out _).mono ?_)); rintro e w8 ⟨rfl, hb8⟩; have HN := Lib.hid (HN.out.call hb8); clear hb8) | (go_at_call 18; with_reducible refine (HC2.out _).mono ?_; rintro e w8 ⟨rfl, hb8⟩; have HN := Lib.hid (HN.out.call hb8); clear hb8) | (refine Cp.stepAlloc (T := 24) (cs := #[.int .u64 0, .int .u64 0, .int .u64 0, .int .u64 0]) rfl rfl (by intro u; kernel_rfl) HN.out ?_; intro g8 w8 hst8; have HN := Lib.hid hst8; clear hst8) | (refine St.stepRow rfl 24 (.tmp 10) (.tmp 42) rfl _ #[.int .u64 i0, .int .u64 i1, .int .u64 i2, .int .u64 i3] rfl rfl HN.out Cs.clInfo rfl (by simp [Value.oneCell']) ?_; intro w8 hst8; have HN := Lib.hid hst8; clear hst8) | (refine St.stepRow rfl 24 (.tmp 10) (.tmp 42) rfl _ #[.int .u64 i0, .int .u64 i1, .int .u64 i2, .int .u64 i3] rfl rfl HN.out.get2 Cs.clInfo rfl (by simp [Value.oneCell']) ?_; intro w8 hst8; have HN := Lib.hid hst8; clear hst8) | (refine St.stepRow rfl 24 (.tmp 11) (.tmp 46) rfl _ #[.int .u64 o0, .int .u64 o1, .int .u64 o2, .int .u64 o3] rfl rfl HN.out.get2 Cs.clInfo rfl (by simp [Value.oneCell']) ?_; intro w8 hst8; have HN := Lib.hid hst8; clear hst8))
                    refine hK.out _ _ ?_ (fun hHeld => ?_)
                    · (try dsimp only); (exact ⟨bkeep HN.out.bel x0, bkeep HN.out.bel x1, bkeep HN.out.bel x2, bkeep HN.out.bel x3, bkeep HN.out.bel z0, bkeep HN.out.bel z1, bkeep HN.out.bel z2, bkeep HN.out.bel z3⟩)
                    clear hK K
                    try simp only [List.getElem_toArray, List.getElem_cons_zero, List.getElem_cons_succ, Act.put, List.setIfInBounds_toArray, List.set_cons_zero, List.set_cons_succ]
                    refine wpAnyH_ready (rs := [9]) (by kernel_rfl) (by simp) ?_
                    refine AllReadyH.cons rfl (fun K hK => ?_) AllReadyH.nil
                    (first | (go_at_call 16; (first | (with_reducible refine (HC1.out _).mono ?_) | (with_reducible refine (HC3.out _).mono ?_)); rintro e w8 ⟨rfl, hb8⟩; have HN := Lib.hid (HN.out.call hb8); clear hb8) | (go_at_call 18; with_reducible refine (HC2.out _).mono ?_; rintro e w8 ⟨rfl, hb8⟩; have HN := Lib.hid (HN.out.call hb8); clear hb8) | (refine Cp.stepAlloc (T := 24) (cs := #[.int .u64 0, .int .u64 0, .int .u64 0, .int .u64 0]) rfl rfl (by intro u; kernel_rfl) HN.out ?_; intro g8 w8 hst8; have HN := Lib.hid hst8; clear hst8) | (refine St.stepRow rfl 24 (.tmp 10) (.tmp 42) rfl _ #[.int .u64 i0, .int .u64 i1, .int .u64 i2, .int .u64 i3] rfl rfl HN.out Cs.clInfo rfl (by simp [Value.oneCell']) ?_; intro w8 hst8; have HN := Lib.hid hst8; clear hst8) | (refine St.stepRow rfl 24 (.tmp 10) (.tmp 42) rfl _ #[.int .u64 i0, .int .u64 i1, .int .u64 i2, .int .u64 i3] rfl rfl HN.out.get2 Cs.clInfo rfl (by simp [Value.oneCell']) ?_; intro w8 hst8; have HN := Lib.hid hst8; clear hst8) | (refine St.stepRow rfl 24 (.tmp 11) (.tmp 46) rfl _ #[.int .u64 o0, .int .u64 o1, .int .u64 o2, .int .u64 o3] rfl rfl HN.out.get2 Cs.clInfo rfl (by simp [Value.oneCell']) ?_; intro w8 hst8; have HN := Lib.hid hst8; clear hst8))
                    refine hK.out _ _ ?_ (fun hHeld => ?_)
                    · (try dsimp only); (exact ⟨bkeep HN.out.bel x0, bkeep HN.out.bel x1, bkeep HN.out.bel x2, bkeep HN.out.bel x3, bkeep HN.out.bel z0, bkeep HN.out.bel z1, bkeep HN.out.bel z2, bkeep HN.out.bel z3⟩)
                    clear hK K
                    try simp only [List.getElem_toArray, List.getElem_cons_zero, List.getElem_cons_succ, Act.put, List.setIfInBounds_toArray, List.set_cons_zero, List.set_cons_succ]
                    refine wpAnyH_ready (rs := [10]) (by kernel_rfl) (by simp) ?_
                    refine AllReadyH.cons rfl (fun K hK => ?_) AllReadyH.nil
                    (first | (go_at_call 16; (first | (with_reducible refine (HC1.out _).mono ?_) | (with_reducible refine (HC3.out _).mono ?_)); rintro e w8 ⟨rfl, hb8⟩; have HN := Lib.hid (HN.out.call hb8); clear hb8) | (go_at_call 18; with_reducible refine (HC2.out _).mono ?_; rintro e w8 ⟨rfl, hb8⟩; have HN := Lib.hid (HN.out.call hb8); clear hb8) | (refine Cp.stepAlloc (T := 24) (cs := #[.int .u64 0, .int .u64 0, .int .u64 0, .int .u64 0]) rfl rfl (by intro u; kernel_rfl) HN.out ?_; intro g8 w8 hst8; have HN := Lib.hid hst8; clear hst8) | (refine St.stepRow rfl 24 (.tmp 10) (.tmp 42) rfl _ #[.int .u64 i0, .int .u64 i1, .int .u64 i2, .int .u64 i3] rfl rfl HN.out Cs.clInfo rfl (by simp [Value.oneCell']) ?_; intro w8 hst8; have HN := Lib.hid hst8; clear hst8) | (refine St.stepRow rfl 24 (.tmp 10) (.tmp 42) rfl _ #[.int .u64 i0, .int .u64 i1, .int .u64 i2, .int .u64 i3] rfl rfl HN.out.get2 Cs.clInfo rfl (by simp [Value.oneCell']) ?_; intro w8 hst8; have HN := Lib.hid hst8; clear hst8) | (refine St.stepRow rfl 24 (.tmp 11) (.tmp 46) rfl _ #[.int .u64 o0, .int .u64 o1, .int .u64 o2, .int .u64 o3] rfl rfl HN.out.get2 Cs.clInfo rfl (by simp [Value.oneCell']) ?_; intro w8 hst8; have HN := Lib.hid hst8; clear hst8))
                    refine hK.out _ _ ?_ (fun hHeld => ?_)
                    · (try dsimp only); (exact ⟨bkeep HN.out.bel x0, bkeep HN.out.bel x1, bkeep HN.out.bel x2, bkeep HN.out.bel x3, bkeep HN.out.bel z0, bkeep HN.out.bel z1, bkeep HN.out.bel z2, bkeep HN.out.bel z3⟩)
                    clear hK K
                    try simp only [List.getElem_toArray, List.getElem_cons_zero, List.getElem_cons_succ, Act.put, List.setIfInBounds_toArray, List.set_cons_zero, List.set_cons_succ]
                    refine wpAnyH_done (by kernel_rfl) ?_ _
                    exact REST _ _ _ (HST.out.join HN.out)
                · skip
                  (first | (go_at_call 16; (first | (with_reducible refine (HC1.out _).mono ?_) | (with_reducible refine (HC3.out _).mono ?_)); rintro e w8 ⟨rfl, hb8⟩; have HN := Lib.hid (HN.out.call hb8); clear hb8) | (go_at_call 18; with_reducible refine (HC2.out _).mono ?_; rintro e w8 ⟨rfl, hb8⟩; have HN := Lib.hid (HN.out.call hb8); clear hb8) | (refine Cp.stepAlloc (T := 24) (cs := #[.int .u64 0, .int .u64 0, .int .u64 0, .int .u64 0]) rfl rfl (by intro u; kernel_rfl) HN.out ?_; intro g8 w8 hst8; have HN := Lib.hid hst8; clear hst8) | (refine St.stepRow rfl 24 (.tmp 10) (.tmp 42) rfl _ #[.int .u64 i0, .int .u64 i1, .int .u64 i2, .int .u64 i3] rfl rfl HN.out Cs.clInfo rfl (by simp [Value.oneCell']) ?_; intro w8 hst8; have HN := Lib.hid hst8; clear hst8) | (refine St.stepRow rfl 24 (.tmp 10) (.tmp 42) rfl _ #[.int .u64 i0, .int .u64 i1, .int .u64 i2, .int .u64 i3] rfl rfl HN.out.get2 Cs.clInfo rfl (by simp [Value.oneCell']) ?_; intro w8 hst8; have HN := Lib.hid hst8; clear hst8) | (refine St.stepRow rfl 24 (.tmp 11) (.tmp 46) rfl _ #[.int .u64 o0, .int .u64 o1, .int .u64 o2, .int .u64 o3] rfl rfl HN.out.get2 Cs.clInfo rfl (by simp [Value.oneCell']) ?_; intro w8 hst8; have HN := Lib.hid hst8; clear hst8))
                  refine hK.out _ _ ?_ (fun hHeld => ?_)
                  · (try dsimp only); (exact ⟨bkeep HN.out.bel x0, bkeep HN.out.bel x1, bkeep HN.out.bel x2, bkeep HN.out.bel x3, bkeep HN.out.bel z0, bkeep HN.out.bel z1, bkeep HN.out.bel z2, bkeep HN.out.bel z3⟩)
                  clear hK K
                  try simp only [List.getElem_toArray, List.getElem_cons_zero, List.getElem_cons_succ, Act.put, List.setIfInBounds_toArray, List.set_cons_zero, List.set_cons_succ]
                  refine wpAnyH_ready (rs := [5, 7]) (by kernel_rfl) (by simp) ?_
                  refine AllReadyH.cons rfl (fun K hK => ?_) (AllReadyH.cons rfl (fun K hK => ?_) (AllReadyH.nil))
                  · skip
                    go_simp
                    (first | (go_at_call 16; (first | (with_reducible refine (HC1.out _).mono ?_) | (with_reducible refine (HC3.out _).mono ?_)); rintro e w8 ⟨rfl, hb8⟩; have HN := Lib.hid (HN.out.call hb8); clear hb8) | (go_at_call 18; with_reducible refine (HC2.out _).mono ?_; rintro e w8 ⟨rfl, hb8⟩; have HN := Lib.hid (HN.out.call hb8); clear hb8) | (refine Cp.stepAlloc (T := 24) (cs := #[.int .u64 0, .int .u64 0, .int .u64 0, .int .u64 0]) rfl rfl (by intro u; kernel_rfl) HN.out ?_; intro g8 w8 hst8; have HN := Lib.hid hst8; clear hst8) | (refine St.stepRow rfl 24 (.tmp 10) (.tmp 42) rfl _ #[.int .u64 i0, .int .u64 i1, .int .u64 i2, .int .u64 i3] rfl rfl HN.out Cs.clInfo rfl (by simp [Value.oneCell']) ?_; intro w8 hst8; have HN := Lib.hid hst8; clear hst8) | (refine St.stepRow rfl 24 (.tmp 10) (.tmp 42) rfl _ #[.int .u64 i0, .int .u64 i1, .int .u64 i2, .int .u64 i3] rfl rfl HN.out.get2 Cs.clInfo rfl (by simp [Value.oneCell']) ?_; intro w8 hst8; have HN := Lib.hid hst8; clear hst8) | (refine St.stepRow rfl 24 (.tmp 11) (.tmp 46) rfl _ #[.int .u64 o0, .int .u64 o1, .int .u64 o2, .int .u64 o3] rfl rfl HN.out.get2 Cs.clInfo rfl (by simp [Value.oneCell']) ?_; intro w8 hst8; have HN := Lib.hid hst8; clear hst8))
                    refine hK.out _ _ ?_ (fun hHeld => ?_)
                    · (try dsimp only); (exact ⟨bkeep HN.out.bel x0, bkeep HN.out.bel x1, bkeep HN.out.bel x2, bkeep HN.out.bel x3, bkeep HN.out.bel z0, bkeep HN.out.bel z1, bkeep HN.out.bel z2, bkeep HN.out.bel z3⟩)
                    clear hK K
                    try simp only [List.getElem_toArray, List.getElem_cons_zero, List.getElem_cons_succ, Act.put, List.setIfInBounds_toArray, List.set_cons_zero, List.set_cons_succ]
                    refine wpAnyH_ready (rs := [6, 7]) (by kernel_rfl) (by simp) ?_
                    refine AllReadyH.cons rfl (fun K hK => ?_) (AllReadyH.cons rfl (fun K hK => ?_) (AllReadyH.nil))
                    · skip
                      go_simp
                      (first | (go_at_call 16; (first | (with_reducible refine (HC1.out _).mono ?_) | (with_reducible refine (HC3.out _).mono ?_)); rintro e w8 ⟨rfl, hb8⟩; have HN := Lib.hid (HN.out.call hb8); clear hb8) | (go_at_call 18; with_reducible refine (HC2.out _).mono ?_; rintro e w8 ⟨rfl, hb8⟩; have HN := Lib.hid (HN.out.call hb8); clear hb8) | (refine Cp.stepAlloc (T := 24) (cs := #[.int .u64 0, .int .u64 0, .int .u64 0, .int .u64 0]) rfl rfl (by intro u; kernel_rfl) HN.out ?_; intro g8 w8 hst8; have HN := Lib.hid hst8; clear hst8) | (refine St.stepRow rfl 24 (.tmp 10) (.tmp 42) rfl _ #[.int .u64 i0, .int .u64 i1, .int .u64 i2, .int .u64 i3] rfl rfl HN.out Cs.clInfo rfl (by simp [Value.oneCell']) ?_; intro w8 hst8; have HN := Lib.hid hst8; clear hst8) | (refine St.stepRow rfl 24 (.tmp 10) (.tmp 42) rfl _ #[.int .u64 i0, .int .u64 i1, .int .u64 i2, .int .u64 i3] rfl rfl HN.out.get2 Cs.clInfo rfl (by simp [Value.oneCell']) ?_; intro w8 hst8; have HN := Lib.hid hst8; clear hst8) | (refine St.stepRow rfl 24 (.tmp 11) (.tmp 46) rfl _ #[.int .u64 o0, .int .u64 o1, .int .u64 o2, .int .u64 o3] rfl rfl HN.out.get2 Cs.clInfo rfl (by simp [Value.oneCell']) ?_; intro w8 hst8; have HN := Lib.hid hst8; clear hst8))
                      refine hK.out _ _ ?_ (fun hHeld => ?_)
                      · (try dsimp only); (exact ⟨bkeep HN.out.bel x0, bkeep HN.out.bel x1, bkeep HN.out.bel x2, bkeep HN.out.bel x3, bkeep HN.out.bel z0, bkeep HN.out.bel z1, bkeep HN.out.bel z2, bkeep HN.out.bel z3⟩)
                      clear hK K
                      try simp only [List.getElem_toArray, List.getElem_cons_zero, List.getElem_cons_succ, Act.put, List.setIfInBounds_toArray, List.set_cons_zero, List.set_cons_succ]
                      refine wpAnyH_ready (rs := [7]) (by kernel_rfl) (by simp) ?_
                      refine AllReadyH.cons rfl (fun K hK => ?_) (AllReadyH.nil)
                      (first | (go_at_call 16; (first | (with_reducible refine (HC1.out _).mono ?_) | (with_reducible refine (HC3.out _).mono ?_)); rintro e w8 ⟨rfl, hb8⟩; have HN := Lib.hid (HN.out.call hb8); clear hb8) | (go_at_call 18; with_reducible refine (HC2.out _).mono ?_; rintro e w8 ⟨rfl, hb8⟩; have HN := Lib.hid (HN.out.call hb8); clear hb8) | (refine Cp.stepAlloc (T := 24) (cs := #[.int .u64 0, .int .u64 0, .int .u64 0, .int .u64 0]) rfl rfl (by intro u; kernel_rfl) HN.out ?_; intro g8 w8 hst8; have HN := Lib.hid hst8; clear hst8) | (refine St.stepRow rfl 24 (.tmp 10) (.tmp 42) rfl _ #[.int .u64 i0, .int .u64 i1, .int .u64 i2, .int .u64 i3] rfl rfl HN.out Cs.clInfo rfl (by simp [Value.oneCell']) ?_; intro w8 hst8; have HN := Lib.hid hst8; clear hst8) | (refine St.stepRow rfl 24 (.tmp 10) (.tmp 42) rfl _ #[.int .u64 i0, .int .u64 i1, .int .u64 i2, .int .u64 i3] rfl rfl HN.out.get2 Cs.clInfo rfl (by simp [Value.oneCell']) ?_; intro w8 hst8; have HN := Lib.hid hst8; clear hst8) | (refine St.stepRow rfl 24 (.tmp 11) (.tmp 46) rfl _ #[.int .u64 o0, .int .u64 o1, .int .u64 o2, .int .u64 o3] rfl rfl HN.out.get2 Cs.clInfo rfl (by simp [Value.oneCell']) ?_; intro w8 hst8; have HN := Lib.hid hst8; clear hst8))
                      refine hK.out _ _ ?_ (fun hHeld => ?_)
                      · (try dsimp only); (exact ⟨bkeep HN.out.bel x0, bkeep HN.out.bel x1, bkeep HN.out.bel x2, bkeep HN.out.bel x3, bkeep HN.out.bel z0, bkeep HN.out.bel z1, bkeep HN.out.bel z2, bkeep HN.out.bel z3⟩)
                      clear hK K
                      try simp only [List.getElem_toArray, List.getElem_cons_zero, List.getElem_cons_succ, Act.put, List.setIfInBounds_toArray, List.set_cons_zero, List.set_cons_succ]
                      refine wpAnyH_ready (rs := [9]) (by kernel_rfl) (by simp) ?_
                      refine AllReadyH.cons rfl (fun K hK => ?_) AllReadyH.nil
                      (first | (go_at_call 16; (first | (with_reducible refine (HC1.out _).mono ?_) | (with_reducible refine (HC3.out _).mono ?_)); rintro e w8 ⟨rfl, hb8⟩; have HN := Lib.hid (HN.out.call hb8); clear hb8) | (go_at_call 18; with_reducible refine (HC2.out _).mono ?_; rintro e w8 ⟨rfl, hb8⟩; have HN := Lib.hid (HN.out.call hb8); clear hb8) | (refine Cp.stepAlloc (T := 24) (cs := #[.int .u64 0, .int .u64 0, .int .u64 0, .int .u64 0]) rfl rfl (by intro u; kernel_rfl) HN.out ?_; intro g8 w8 hst8; have HN := Lib.hid hst8; clear hst8) | (refine St.stepRow rfl 24 (.tmp 10) (.tmp 42) rfl _ #[.int .u64 i0, .int .u64 i1, .int .u64 i2, .int .u64 i3] rfl rfl HN.out Cs.clInfo rfl (by simp [Value.oneCell']) ?_; intro w8 hst8; have HN := Lib.hid hst8; clear hst8) | (refine St.stepRow rfl 24 (.tmp 10) (.tmp 42) rfl _ #[.int .u64 i0, .int .u64 i1, .int .u64 i2, .int .u64 i3] rfl rfl HN.out.get2 Cs.clInfo rfl (by simp [Value.oneCell']) ?_; intro w8 hst8; have HN := Lib.hid hst8; clear hst8) | (refine St.stepRow rfl 24 (.tmp 11) (.tmp 46) rfl _ #[.int .u64 o0, .int .u64 o1, .int .u64 o2, .int .u64 o3] rfl rfl HN.out.get2 Cs.clInfo rfl (by simp [Value.oneCell']) ?_; intro w8 hst8; have HN := Lib.hid hst8; clear hst8))
                      refine hK.out _ _ ?_ (fun hHeld => ?_)
                      · (try dsimp only); (exact ⟨bkeep HN.out.bel x0, bkeep HN.out.bel x1, bkeep HN.out.bel x2, bkeep HN.out.bel x3, bkeep HN.out.bel z0, bkeep HN.out.bel z1, bkeep HN.out.bel z2, bkeep HN.out.bel z3⟩)
                      clear hK K
                      try simp only [List.getElem_toArray, List.getElem_cons_zero, List.getElem_cons_succ, Act.put, List.setIfInBounds_toArray, List.set_cons_zero, List.set_cons_succ]
                      refine wpAnyH_ready (rs := [10]) (by kernel_rfl) (by simp) ?_
                      refine AllReadyH.cons rfl (fun K hK => ?_) AllReadyH.nil
                      (first | (go_at_call 16; (first | (with_reducible refine (HC1.out _).mono ?_) | (with_reducible refine (HC3.out _).mono ?_)); rintro e w8 ⟨rfl, hb8⟩; have HN := Lib.hid (HN.out.call hb8); clear hb8) | (go_at_call 18; with_reducible refine (HC2.out _).mono ?_; rintro e w8 ⟨rfl, hb8⟩; have HN := Lib.hid (HN.out.call hb8); clear hb8) | (refine Cp.stepAlloc (T := 24) (cs := #[.int .u64 0, .int .u64 0, .int .u64 0, .int .u64 0]) rfl rfl (by intro u; kernel_rfl) HN.out ?_; intro g8 w8 hst8; have HN := Lib.hid hst8; clear hst8) | (refine St.stepRow rfl 24 (.tmp 10) (.tmp 42) rfl _ #[.int .u64 i0, .int .u64 i1, .int .u64 i2, .int .u64 i3] rfl rfl HN.out Cs.clInfo rfl (by simp [Value.oneCell']) ?_; intro w8 hst8; have HN := Lib.hid hst8; clear hst8) | (refine St.stepRow rfl 24 (.tmp 10) (.tmp 42) rfl _ #[.int .u64 i0, .int .u64 i1, .int .u64 i2, .int .u64 i3] rfl rfl HN.out.get2 Cs.clInfo rfl (by simp [Value.oneCell']) ?_; intro w8 hst8; have HN := Lib.hid hst8; clear hst8) | (refine St.stepRow rfl 24 (.tmp 11) (.tmp 46) rfl _ #[.int .u64 o0, .int .u64 o1, .int .u64 o2, .int .u64 o3] rfl rfl HN.out.get2 Cs.clInfo rfl (by simp [Value.oneCell']) ?_; intro w8 hst8; have HN := Lib.hid hst8; clear hst8))
                      refine hK.out _ _ ?_ (fun hHeld => ?_)
                      · (try dsimp only); (exact ⟨bkeep HN.out.bel x0, bkeep HN.out.bel x1, bkeep HN.out.bel x2, bkeep HN.out.bel x3, bkeep HN.out.bel z0, bkeep HN.out.bel z1, bkeep HN.out.bel z2, bkeep HN.out.bel z3⟩)
                      clear hK K
                      try simp only [List.getElem_toArray, List.getElem_cons_zero, List.getElem_cons_succ, Act.put, List.setIfInBounds_toArray, List.set_cons_zero, List.set_cons_succ]
                      refine wpAnyH_done (by kernel_rfl) ?_ _
                      exact REST _ _ _ (HST.out.join HN.out)
                    · skip
                      (first | (go_at_call 16; (first | (with_reducible refine (HC1.out _).mono ?_) | (with_reducible refine (HC3.out _).mono ?_)); rintro e w8 ⟨rfl, hb8⟩; have HN := Lib.hid (HN.out.call hb8); clear hb8) | (go_at_call 18; with_reducible refine (HC2.out _).mono ?_; rintro e w8 ⟨rfl, hb8⟩; have HN := Lib.hid (HN.out.call hb8); clear hb8) | (refine Cp.stepAlloc (T := 24) (cs := #[.int .u64 0, .int .u64 0, .int .u64 0, .int .u64 0]) rfl rfl (by intro u; kernel_rfl) HN.out ?_; intro g8 w8 hst8; have HN := Lib.hid hst8; clear hst8) | (refine St.stepRow rfl 24 (.tmp 10) (.tmp 42) rfl _ #[.int .u64 i0, .int .u64 i1, .int .u64 i2, .int .u64 i3] rfl rfl HN.out Cs.clInfo rfl (by simp [Value.oneCell']) ?_; intro w8 hst8; have HN := Lib.hid hst8; clear hst8) | (refine St.stepRow rfl 24 (.tmp 10) (.tmp 42) rfl _ #[.int .u64 i0, .int .u64 i1, .int .u64 i2, .int .u64 i3] rfl rfl HN.out.get2 Cs.clInfo rfl (by simp [Value.oneCell']) ?_; intro w8 hst8; have HN := Lib.hid hst8; clear hst8) | (refine St.stepRow rfl 24 (.tmp 11) (.tmp 46) rfl _ #[.int .u64 o0, .int .u64 o1, .int .u64 o2, .int .u64 o3] rfl rfl HN.out.get2 Cs.clInfo rfl (by simp [Value.oneCell']) ?_; intro w8 hst8; have HN := Lib.hid hst8; clear hst8))
                      refine hK.out _ _ ?_ (fun hHeld => ?_)
                      · (try dsimp only); (exact ⟨bkeep HN.out.bel x0, bkeep HN.out.bel x1, bkeep HN.out.bel x2, bkeep HN.out.bel x3, bkeep HN.out.bel z0, bkeep HN.out.bel z1, bkeep HN.out.bel z2, bkeep HN.out.bel z3⟩)
                      clear hK K
                      try simp only [List.getElem_toArray, List.getElem_cons_zero, List.getElem_cons_succ, Act.put, List.setIfInBounds_toArray, List.set_cons_zero, List.set_cons_succ]
                      refine wpAnyH_ready (rs := [6]) (by kernel_rfl) (by simp) ?_
                      refine AllReadyH.cons rfl (fun K hK => ?_) (AllReadyH.nil)
                      go_simp
                      (first | (go_at_call 16; (first | (with_reducible refine (HC1.out _).mono ?_) | (with_reducible refine (HC3.out _).mono ?_)); rintro e w8 ⟨rfl, hb8⟩; have HN := Lib.hid (HN.out.call hb8); clear hb8) | (go_at_call 18; with_reducible refine (HC2.out _).mono ?_; rintro e w8 ⟨rfl, hb8⟩; have HN := Lib.hid (HN.out.call hb8); clear hb8) | (refine Cp.stepAlloc (T := 24) (cs := #[.int .u64 0, .int .u64 0, .int .u64 0, .int .u64 0]) rfl rfl (by intro u; kernel_rfl) HN.out ?_; intro g8 w8 hst8; have HN := Lib.hid hst8; clear hst8) | (refine St.stepRow rfl 24 (.tmp 10) (.tmp 42) rfl _ #[.int .u64 i0, .int .u64 i1, .int .u64 i2, .int .u64 i3] rfl rfl HN.out Cs.clInfo rfl (by simp [Value.oneCell']) ?_; intro w8 hst8; have HN := Lib.hid hst8; clear hst8) | (refine St.stepRow rfl 24 (.tmp 10) (.tmp 42) rfl _ #[.int .u64 i0, .int .u64 i1, .int .u64 i2, .int .u64 i3] rfl rfl HN.out.get2 Cs.clInfo rfl (by simp [Value.oneCell']) ?_; intro w8 hst8; have HN := Lib.hid hst8; clear hst8) | (refine St.stepRow rfl 24 (.tmp 11) (.tmp 46) rfl _ #[.int .u64 o0, .int .u64 o1, .int .u64 o2, .int .u64 o3] rfl rfl HN.out.get2 Cs.clInfo rfl (by simp [Value.oneCell']) ?_; intro w8 hst8; have HN := Lib.hid hst8; clear hst8))
                      refine hK.out _ _ ?_ (fun hHeld => ?_)
                      · (try dsimp only); (exact ⟨bkeep HN.out.bel x0, bkeep HN.out.bel x1, bkeep HN.out.bel x2, bkeep HN.out.bel x3, bkeep HN.out.bel z0, bkeep HN.out.bel z1, bkeep HN.out.bel z2, bkeep HN.out.bel z3⟩)
                      clear hK K
                      try simp only [List.getElem_toArray, List.getElem_cons_zero, List.getElem_cons_succ, Act.put, List.setIfInBounds_toArray, List.set_cons_zero, List.set_cons_succ]
                      refine wpAnyH_ready (rs := [9]) (by kernel_rfl) (by simp) ?_
                      refine AllReadyH.cons rfl (fun K hK => ?_) AllReadyH.nil
                      (first | (go_at_call 16; (first | (with_reducible refine (HC1.out _).mono ?_) | (with_reducible refine (HC3.out _).mono ?_)); rintro e w8 ⟨rfl, hb8⟩; have HN := Lib.hid (HN.out.call hb8); clear hb8) | (go_at_call 18; with_reducible refine (HC2.out _).mono ?_; rintro e w8 ⟨rfl, hb8⟩; have HN := Lib.hid (HN.out.call hb8); clear hb8) | (refine Cp.stepAlloc (T := 24) (cs := #[.int .u64 0, .int .u64 0, .int .u64 0, .int .u64 0]) rfl rfl (by intro u; kernel_rfl) HN.out ?_; intro g8 w8 hst8; have HN := Lib.hid hst8; clear hst8) | (refine St.stepRow rfl 24 (.tmp 10) (.tmp 42) rfl _ #[.int .u64 i0, .int .u64 i1, .int .u64 i2, .int .u64 i3] rfl rfl HN.out Cs.clInfo rfl (by simp [Value.oneCell']) ?_; intro w8 hst8; have HN := Lib.hid hst8; clear hst8) | (refine St.stepRow rfl 24 (.tmp 10) (.tmp 42) rfl _ #[.int .u64 i0, .int .u64 i1, .int .u64 i2, .int .u64 i3] rfl rfl HN.out.get2 Cs.clInfo rfl (by simp [Value.oneCell']) ?_; intro w8 hst8; have HN := Lib.hid hst8; clear hst8) | (refine St.stepRow rfl 24 (.tmp 11) (.tmp 46) rfl _ #[.int .u64 o0, .int .u64 o1, .int .u64 o2, .int .u64 o3] rfl rfl HN.out.get2 Cs.clInfo rfl (by simp [Value.oneCell']) ?_; intro w8 hst8; have HN := Lib.hid hst8; clear hst8))
                      refine hK.out _ _ ?_ (fun hHeld => ?_)
                      · (try dsimp only); (exact ⟨bkeep HN.out.bel x0, bkeep HN.out.bel x1, bkeep HN.out.bel x2, bkeep HN.out.bel x3, bkeep HN.out.bel z0, bkeep HN.out.bel z1, bkeep HN.out.bel z2, bkeep HN.out.bel z3⟩)
                      clear hK K
                      try simp only [List.getElem_toArray, List.getElem_cons_zero, List.getElem_cons_succ, Act.put, List.setIfInBounds_toArray, List.set_cons_zero, List.set_cons_succ]
                      refine wpAnyH_ready (rs := [10]) (by kernel_rfl) (by simp) ?_
                      refine AllReadyH.cons rfl (fun K hK => ?_) AllReadyH.nil
                      (first | (go_at_call 16; (first | (with_reducible refine (HC1.out _).mono ?_) | (with_reducible refine (HC3.out _).mono ?_)); rintro e w8 ⟨rfl, hb8⟩; have HN := Lib.hid (HN.out.call hb8); clear hb8) | (go_at_call 18; with_reducible refine (HC2.out _).mono ?_; rintro e w8 ⟨rfl, hb8⟩; have HN := Lib.hid (HN.out.call hb8); clear hb8) | (refine Cp.stepAlloc (T := 24) (cs := #[.int .u64 0, .int .u64 0, .int .u64 0, .int .u64 0]) rfl rfl (by intro u; kernel_rfl) HN.out ?_; intro g8 w8 hst8; have HN := Lib.hid hst8; clear hst8) | (refine St.stepRow rfl 24 (.tmp 10) (.tmp 42) rfl _ #[.int .u64 i0, .int .u64 i1, .int .u64 i2, .int .u64 i3] rfl rfl HN.out Cs.clInfo rfl (by simp [Value.oneCell']) ?_; intro w8 hst8; have HN := Lib.hid hst8; clear hst8) | (refine St.stepRow rfl 24 (.tmp 10) (.tmp 42) rfl _ #[.int .u64 i0, .int .u64 i1, .int .u64 i2, .int .u64 i3] rfl rfl HN.out.get2 Cs.clInfo rfl (by simp [Value.oneCell']) ?_; intro w8 hst8; have HN := Lib.hid hst8; clear hst8) | (refine St.stepRow rfl 24 (.tmp 11) (.tmp 46) rfl _ #[.int .u64 o0, .int .u64 o1, .int .u64 o2, .int .u64 o3] rfl rfl HN.out.get2 Cs.clInfo rfl (by simp [Value.oneCell']) ?_; intro w8 hst8; have HN := Lib.hid hst8; clear hst8))
                      refine hK.out _ _ ?_ (fun hHeld => ?_)
                      · (try dsimp only); (exact ⟨bkeep HN.out.bel x0, bkeep HN.out.bel x1, bkeep HN.out.bel x2, bkeep HN.out.bel x3, bkeep HN.out.bel z0, bkeep HN.out.bel z1, bkeep HN.out.bel z2, bkeep HN.out.bel z3⟩)
                      clear hK K
                      try simp only [List.getElem_toArray, List.getElem_cons_zero, List.getElem_cons_succ, Act.put, List.setIfInBounds_toArray, List.set_cons_zero, List.set_cons_succ]
                      refine wpAnyH_done (by kernel_rfl) ?_ _
                      exact REST _ _ _ (HST.out.join HN.out)
                  · skip
                    (first | (go_at_call 16; (first | (with_reducible refine (HC1.out _).mono ?_) | (with_reducible refine (HC3.out _).mono ?_)); rintro e w8 ⟨rfl, hb8⟩; have HN := Lib.hid (HN.out.call hb8); clear hb8) | (go_at_call 18; with_reducible refine (HC2.out _).mono ?_; rintro e w8 ⟨rfl, hb8⟩; have HN := Lib.hid (HN.out.call hb8); clear hb8) | (refine Cp.stepAlloc (T := 24) (cs := #[.int .u64 0, .int .u64 0, .int .u64 0, .int .u64 0]) rfl rfl (by intro u; kernel_rfl) HN.out ?_; intro g8 w8 hst8; have HN := Lib.hid hst8; clear hst8) | (refine St.stepRow rfl 24 (.tmp 10) (.tmp 42) rfl _ #[.int .u64 i0, .int .u64 i1, .int .u64 i2, .int .u64 i3] rfl rfl HN.out Cs.clInfo rfl (by simp [Value.oneCell']) ?_; intro w8 hst8; have HN := Lib.hid hst8; clear hst8) | (refine St.stepRow rfl 24 (.tmp 10) (.tmp 42) rfl _ #[.int .u64 i0, .int .u64 i1, .int .u64 i2, .int .u64 i3] rfl rfl HN.out.get2 Cs.clInfo rfl (by simp [Value.oneCell']) ?_; intro w8 hst8; have HN := Lib.hid hst8; clear hst8) | (refine St.stepRow rfl 24 (.tmp 11) (.tmp 46) rfl _ #[.int .u64 o0, .int .u64 o1, .int .u64 o2, .int .u64 o3] rfl rfl HN.out.get2 Cs.clInfo rfl (by simp [Value.oneCell']) ?_; intro w8 hst8; have HN := Lib.hid hst8; clear hst8))
                    refine hK.out _ _ ?_ (fun hHeld => ?_)
                    · (try dsimp only); (exact ⟨bkeep HN.out.bel x0, bkeep HN.out.bel x1, bkeep HN.out.bel x2, bkeep HN.out.bel x3, bkeep HN.out.bel z0, bkeep HN.out.bel z1, bkeep HN.out.bel z2, bkeep HN.out.bel z3⟩)
                    clear hK K
                    try simp only [List.getElem_toArray, List.getElem_cons_zero, List.getElem_cons_succ, Act.put, List.setIfInBounds_toArray, List.set_cons_zero, List.set_cons_succ]
                    refine wpAnyH_ready (rs := [5]) (by kernel_rfl) (by simp) ?_
                    refine AllReadyH.cons rfl (fun K hK => ?_) (AllReadyH.nil)
                    go_simp
                    (first | (go_at_call 16; (first | (with_reducible refine (HC1.out _).mono ?_) | (with_reducible refine (HC3.out _).mono ?_)); rintro e w8 ⟨rfl, hb8⟩; have HN := Lib.hid (HN.out.call hb8); clear hb8) | (go_at_call 18; with_reducible refine (HC2.out _).mono ?_; rintro e w8 ⟨rfl, hb8⟩; have HN := Lib.hid (HN.out.call hb8); clear hb8) | (refine Cp.stepAlloc (T := 24) (cs := #[.int .u64 0, .int .u64 0, .int .u64 0, .int .u64 0]) rfl rfl (by intro u; kernel_rfl) HN.out ?_; intro g8 w8 hst8; have HN := Lib.hid hst8; clear hst8) | (refine St.stepRow rfl 24 (.tmp 10) (.tmp 42) rfl _ #[.int .u64 i0, .int .u64 i1, .int .u64 i2, .int .u64 i3] rfl rfl HN.out Cs.clInfo rfl (by simp [Value.oneCell']) ?_; intro w8 hst8; have HN := Lib.hid hst8; clear hst8) | (refine St.stepRow rfl 24 (.tmp 10) (.tmp 42) rfl _ #[.int .u64 i0, .int .u64 i1, .int .u64 i2, .int .u64 i3] rfl rfl HN.out.get2 Cs.clInfo rfl (by simp [Value.oneCell']) ?_; intro w8 hst8; have HN := Lib.hid hst8; clear hst8) | (refine St.stepRow rfl 24 (.tmp 11) (.tmp 46) rfl _ #[.int .u64 o0, .int .u64 o1, .int .u64 o2, .int .u64 o3] rfl rfl HN.out.get2 Cs.clInfo rfl (by simp [Value.oneCell']) ?_; intro w8 hst8; have HN := Lib.hid hst8; clear hst8))
                    refine hK.out _ _ ?_ (fun hHeld => ?_)
                    · (try dsimp only); (exact ⟨bkeep HN.out.bel x0, bkeep HN.out.bel x1, bkeep HN.out.bel x2, bkeep HN.out.bel x3, bkeep HN.out.bel z0, bkeep HN.out.bel z1, bkeep HN.out.bel z2, bkeep HN.out.bel z3⟩)
                    clear hK K
                    try simp only [List.getElem_toArray, List.getElem_cons_zero, List.getElem_cons_succ, Act.put, List.setIfInBounds_toArray, List.set_cons_zero, List.set_cons_succ]
                    refine wpAnyH_ready (rs := [6]) (by kernel_rfl) (by simp) ?_
                    refine AllReadyH.cons rfl (fun K hK => ?_) (AllReadyH.nil)
                    go_simp
                    (first | (go_at_call 16; (first | (with_reducible refine (HC1.out _).mono ?_) | (with_reducible refine (HC3.out _).mono ?_)); rintro e w8 ⟨rfl, hb8⟩; have HN := Lib.hid (HN.out.call hb8); clear hb8) | (go_at_call 18; with_reducible refine (HC2.out _).mono ?_; rintro e w8 ⟨rfl, hb8⟩; have HN := Lib.hid (HN.out.call hb8); clear hb8) | (refine Cp.stepAlloc (T := 24) (cs := #[.int .u64 0, .int .u64 0, .int .u64 0, .int .u64 0]) rfl rfl (by intro u; kernel_rfl) HN.out ?_; intro g8 w8 hst8; have HN := Lib.hid hst8; clear hst8) | (refine St.stepRow rfl 24 (.tmp 10) (.tmp 42) rfl _ #[.int .u64 i0, .int .u64 i1, .int .u64 i2, .int .u64 i3] rfl rfl HN.out Cs.clInfo rfl (by simp [Value.oneCell']) ?_; intro w8 hst8; have HN := Lib.hid hst8; clear hst8) | (refine St.stepRow rfl 24 (.tmp 10) (.tmp 42) rfl _ #[.int .u64 i0, .int .u64 i1, .int .u64 i2, .int .u64 i3] rfl rfl HN.out.get2 Cs.clInfo rfl (by simp [Value.oneCell']) ?_; intro w8 hst8; have HN := Lib.hid hst8; clear hst8) | (refine St.stepRow rfl 24 (.tmp 11) (.tmp 46) rfl _ #[.int .u64 o0, .int .u64 o1, .int .u64 o2, .int .u64 o3] rfl rfl HN.out.get2 Cs.clInfo rfl (by simp [Value.oneCell']) ?_; intro w8 hst8; have HN := Lib.hid hst8; clear hst8))
                    refine hK.out _ _ ?_ (fun hHeld => ?_)
                    · (try dsimp only); (exact ⟨bkeep HN.out.bel x0, bkeep HN.out.bel x1, bkeep HN.out.bel x2, bkeep HN.out.bel x3, bkeep HN.out.bel z0, bkeep HN.out.bel z1, bkeep HN.out.bel z2, bkeep HN.out.bel z3⟩)
                    clear hK K
                    try simp only [List.getElem_toArray, List.getElem_cons_zero, List.getElem_cons_succ, Act.put, List.setIfInBounds_toArray, List.set_cons_zero, List.set_cons_succ]
                    refine wpAnyH_ready (rs := [9]) (by kernel_rfl) (by simp) ?_
                    refine AllReadyH.cons rfl (fun K hK => ?_) AllReadyH.nil
                    (first | (go_at_call 16; (first | (with_reducible refine (HC1.out _).mono ?_) | (with_reducible refine (HC3.out _).mono ?_)); rintro e w8 ⟨rfl, hb8⟩; have HN := Lib.hid (HN.out.call hb8); clear hb8) | (go_at_call 18; with_reducible refine (HC2.out _).mono ?_; rintro e w8 ⟨rfl, hb8⟩; have HN := Lib.hid (HN.out.call hb8); clear hb8) | (refine Cp.stepAlloc (T := 24) (cs := #[.int .u64 0, .int .u64 0, .int .u64 0, .int .u64 0]) rfl rfl (by intro u; kernel_rfl) HN.out ?_; intro g8 w8 hst8; have HN := Lib.hid hst8; clear hst8) | (refine St.stepRow rfl 24 (.tmp 10) (.tmp 42) rfl _ #[.int .u64 i0, .int .u64 i1, .int .u64 i2, .int .u64 i3] rfl rfl HN.out Cs.clInfo rfl (by simp [Value.oneCell']) ?_; intro w8 hst8; have HN := Lib.hid hst8; clear hst8) | (refine St.stepRow rfl 24 (.tmp 10) (.tmp 42) rfl _ #[.int .u64 i0, .int .u64 i1, .int .u64 i2, .int .u64 i3] rfl rfl HN.out.get2 Cs.clInfo rfl (by simp [Value.oneCell']) ?_; intro w8 hst8; have HN := Lib.hid hst8; clear hst8) | (refine St.stepRow rfl 24 (.tmp 11) (.tmp 46) rfl _ #[.int .u64 o0, .int .u64 o1, .int .u64 o2, .int .u64 o3] rfl rfl HN.out.get2 Cs.clInfo rfl (by simp [Value.oneCell']) ?_; intro w8 hst8; have HN := Lib.hid hst8; clear hst8))
                    refine hK.out _ _ ?_ (fun hHeld => ?_)
                    · (try dsimp only); (exact ⟨bkeep HN.out.bel x0, bkeep HN.out.bel x1, bkeep HN.out.bel x2, bkeep HN.out.bel x3, bkeep HN.out.bel z0, bkeep HN.out.bel z1, bkeep HN.out.bel z2, bkeep HN.out.bel z3⟩)
                    clear hK K
                    try simp only [List.getElem_toArray, List.getElem_cons_zero, List.getElem_cons_succ, Act.put, List.setIfInBounds_toArray, List.set_cons_zero, List.set_cons_succ]
                    refine wpAnyH_ready (rs := [10]) (by kernel_rfl) (by simp) ?_
                    refine AllReadyH.cons rfl (fun K hK => ?_) AllReadyH.nil
                    (first | (go_at_call 16; (first | (with_reducible refine (HC1.out _).mono ?_) | (with_reducible refine (HC3.out _).mono ?_)); rintro e w8 ⟨rfl, hb8⟩; have HN := Lib.hid (HN.out.call hb8); clear hb8) | (go_at_call 18; with_reducible refine (HC2.out _).mono ?_; rintro e w8 ⟨rfl, hb8⟩; have HN := Lib.hid (HN.out.call hb8); clear hb8) | (refine Cp.stepAlloc (T := 24) (cs := #[.int .u64 0, .int .u64 0, .int .u64 0, .int .u64 0]) rfl rfl (by intro u; kernel_rfl) HN.out ?_; intro g8 w8 hst8; have HN := Lib.hid hst8; clear hst8) | (refine St.stepRow rfl 24 (.tmp 10) (.tmp 42) rfl _ #[.int .u64 i0, .int .u64 i1, .int .u64 i2, .int .u64 i3] rfl rfl HN.out Cs.clInfo rfl (by simp [Value.oneCell']) ?_; intro w8 hst8; have HN := Lib.hid hst8; clear hst8) | (refine St.stepRow rfl 24 (.tmp 10) (.tmp 42) rfl _ #[.int .u64 i0, .int .u64 i1, .int .u64 i2, .int .u64 i3] rfl rfl HN.out.get2 Cs.clInfo rfl (by simp [Value.oneCell']) ?_; intro w8 hst8; have HN := Lib.hid hst8; clear hst8) | (refine St.stepRow rfl 24 (.tmp 11) (.tmp 46) rfl _ #[.int .u64 o0, .int .u64 o1, .int .u64 o2, .int .u64 o3] rfl rfl HN.out.get2 Cs.clInfo rfl (by simp [Value.oneCell']) ?_; intro w8 hst8; have HN := Lib.hid hst8; clear hst8))
                    refine hK.out _ _ ?_ (fun hHeld => ?_)
                    · (try dsimp only); (exact ⟨bkeep HN.out.bel x0, bkeep HN.out.bel x1, bkeep HN.out.bel x2, bkeep HN.out.bel x3, bkeep HN.out.bel z0, bkeep HN.out.bel z1, bkeep HN.out.bel z2, bkeep HN.out.bel z3⟩)
                    clear hK K
                    try simp only [List.getElem_toArray, List.getElem_cons_zero, List.getElem_cons_succ, Act.put, List.setIfInBounds_toArray, List.set_cons_zero, List.set_cons_succ]
                    refine wpAnyH_done (by kernel_rfl) ?_ _
                    exact REST _ _ _ (HST.out.join HN.out)
              · skip
                (first | (go_at_call 16; (first | (with_reducible refine (HC1.out _).mono ?_) | (with_reducible refine (HC3.out _).mono ?_)); rintro e w8 ⟨rfl, hb8⟩; have HN := Lib.hid (HN.out.call hb8); clear hb8) | (go_at_call 18; with_reducible refine (HC2.out _).mono ?_; rintro e w8 ⟨rfl, hb8⟩; have HN := Lib.hid (HN.out.call hb8); clear hb8) | (refine Cp.stepAlloc (T := 24) (cs := #[.int .u64 0, .int .u64 0, .int .u64 0, .int .u64 0]) rfl rfl (by intro u; kernel_rfl) HN.out ?_; intro g8 w8 hst8; have HN := Lib.hid hst8; clear hst8) | (refine St.stepRow rfl 24 (.tmp 10) (.tmp 42) rfl _ #[.int .u64 i0, .int .u64 i1, .int .u64 i2, .int .u64 i3] rfl rfl HN.out Cs.clInfo rfl (by simp [Value.oneCell']) ?_; intro w8 hst8; have HN := Lib.hid hst8; clear hst8) | (refine St.stepRow rfl 24 (.tmp 10) (.tmp 42) rfl _ #[.int .u64 i0, .int .u64 i1, .int .u64 i2, .int .u64 i3] rfl rfl HN.out.get2 Cs.clInfo rfl (by simp [Value.oneCell']) ?_; intro w8 hst8; have HN := Lib.hid hst8; clear hst8) | (refine St.stepRow rfl 24 (.tmp 11) (.tmp 46) rfl _ #[.int .u64 o0, .int .u64 o1, .int .u64 o2, .int .u64 o3] rfl rfl HN.out.get2 Cs.clInfo rfl (by simp [Value.oneCell']) ?_; intro w8 hst8; have HN := Lib.hid hst8; clear hst8))
                refine hK.out _ _ ?_ (fun hHeld => ?_)
                · (try dsimp only); (exact ⟨bkeep HN.out.bel x0, bkeep HN.out.bel x1, bkeep HN.out.bel x2, bkeep HN.out.bel x3, bkeep HN.out.bel z0, bkeep HN.out.bel z1, bkeep HN.out.bel z2, bkeep HN.out.bel z3⟩)
                clear hK K
                try simp only [List.getElem_toArray, List.getElem_cons_zero, List.getElem_cons_succ, Act.put, List.setIfInBounds_toArray, List.set_cons_zero, List.set_cons_succ]
                refine wpAnyH_ready (rs := [2, 8]) (by kernel_rfl) (by simp) ?_
                refine AllReadyH.cons rfl (fun K hK => ?_) (AllReadyH.cons rfl (fun K hK => ?_) (AllReadyH.nil))
                · skip
                  go_simp
                  (first | (go_at_call 16; (first | (with_reducible refine (HC1.out _).mono ?_) | (with_reducible refine (HC3.out _).mono ?_)); rintro e w8 ⟨rfl, hb8⟩; have HN := Lib.hid (HN.out.call hb8); clear hb8) | (go_at_call 18; with_reducible refine (HC2.out _).mono ?_; rintro e w8 ⟨rfl, hb8⟩; have HN := Lib.hid (HN.out.call hb8); clear hb8) | (refine Cp.stepAlloc (T := 24) (cs := #[.int .u64 0, .int .u64 0, .int .u64 0, .int .u64 0]) rfl rfl (by intro u; kernel_rfl) HN.out ?_; intro g8 w8 hst8; have HN := Lib.hid hst8; clear hst8) | (refine St.stepRow rfl 24 (.tmp 10) (.tmp 42) rfl _ #[.int .u64 i0, .int .u64 i1, .int .u64 i2, .int .u64 i3] rfl rfl HN.out Cs.clInfo rfl (by simp [Value.oneCell']) ?_; intro w8 hst8; have HN := Lib.hid hst8; clear hst8) | (refine St.stepRow rfl 24 (.tmp 10) (.tmp 42) rfl _ #[.int .u64 i0, .int .u64 i1, .int .u64 i2, .int .u64 i3] rfl rfl HN.out.get2 Cs.clInfo rfl (by simp [Value.oneCell']) ?_; intro w8 hst8; have HN := Lib.hid hst8; clear hst8) | (refine St.stepRow rfl 24 (.tmp 11) (.tmp 46) rfl _ #[.int .u64 o0, .int .u64 o1, .int .u64 o2, .int .u64 o3] rfl rfl HN.out.get2 Cs.clInfo rfl (by simp [Value.oneCell']) ?_; intro w8 hst8; have HN := Lib.hid hst8; clear hst8))
                  refine hK.out _ _ ?_ (fun hHeld => ?_)
                  · (try dsimp only); (exact ⟨bkeep HN.out.bel x0, bkeep HN.out.bel x1, bkeep HN.out.bel x2, bkeep HN.out.bel x3, bkeep HN.out.bel z0, bkeep HN.out.bel z1, bkeep HN.out.bel z2, bkeep HN.out.bel z3⟩)
                  clear hK K
                  try simp only [List.getElem_toArray, List.getElem_cons_zero, List.getElem_cons_succ, Act.put, List.setIfInBounds_toArray, List.set_cons_zero, List.set_cons_succ]
                  refine wpAnyH_ready (rs := [5, 8]) (by kernel_rfl) (by simp) ?_
                  refine AllReadyH.cons rfl (fun K hK => ?_) (AllReadyH.cons rfl (fun K hK => ?_) (AllReadyH.nil))
                  · skip
                    go_simp
                    (first | (go_at_call 16; (first | (with_reducible refine (HC1.out _).mono ?_) | (with_reducible refine (HC3.out _).mono ?_)); rintro e w8 ⟨rfl, hb8⟩; have HN := Lib.hid (HN.out.call hb8); clear hb8) | (go_at_call 18; with_reducible refine (HC2.out _).mono ?_; rintro e w8 ⟨rfl, hb8⟩; have HN := Lib.hid (HN.out.call hb8); clear hb8) | (refine Cp.stepAlloc (T := 24) (cs := #[.int .u64 0, .int .u64 0, .int .u64 0, .int .u64 0]) rfl rfl (by intro u; kernel_rfl) HN.out ?_; intro g8 w8 hst8; have HN := Lib.hid hst8; clear hst8) | (refine St.stepRow rfl 24 (.tmp 10) (.tmp 42) rfl _ #[.int .u64 i0, .int .u64 i1, .int .u64 i2, .int .u64 i3] rfl rfl HN.out Cs.clInfo rfl (by simp [Value.oneCell']) ?_; intro w8 hst8; have HN := Lib.hid hst8; clear hst8) | (refine St.stepRow rfl 24 (.tmp 10) (.tmp 42) rfl _ #[.int .u64 i0, .int .u64 i1, .int .u64 i2, .int .u64 i3] rfl rfl HN.out.get2 Cs.clInfo rfl (by simp [Value.oneCell']) ?_; intro w8 hst8; have HN := Lib.hid hst8; clear hst8) | (refine St.stepRow rfl 24 (.tmp 11) (.tmp 46) rfl _ #[.int .u64 o0, .int .u64 o1, .int .u64 o2, .int .u64 o3] rfl rfl HN.out.get2 Cs.clInfo rfl (by simp [Value.oneCell']) ?_; intro w8 hst8; have HN := Lib.hid hst8; clear hst8))
                    refine hK.out _ _ ?_ (fun hHeld => ?_)
                    · (try dsimp only); (exact ⟨bkeep HN.out.bel x0, bkeep HN.out.bel x1, bkeep HN.out.bel x2, bkeep HN.out.bel x3, bkeep HN.out.bel z0, bkeep HN.out.bel z1, bkeep HN.out.bel z2, bkeep HN.out.bel z3⟩)
                    clear hK K
                    try simp only [List.getElem_toArray, List.getElem_cons_zero, List.getElem_cons_succ, Act.put, List.setIfInBounds_toArray, List.set_cons_zero, List.set_cons_succ]
                    refine wpAnyH_ready (rs := [6, 8]) (by kernel_rfl) (by simp) ?_
                    refine AllReadyH.cons rfl (fun K hK => ?_) (AllReadyH.cons rfl (fun K hK => ?_) (AllReadyH.nil))
                    · skip
                      go_simp
                      (first | (go_at_call 16; (first | (with_reducible refine (HC1.out _).mono ?_) | (with_reducible refine (HC3.out _).mono ?_)); rintro e w8 ⟨rfl, hb8⟩; have HN := Lib.hid (HN.out.call hb8); clear hb8) | (go_at_call 18; with_reducible refine (HC2.out _).mono ?_; rintro e w8 ⟨rfl, hb8⟩; have HN := Lib.hid (HN.out.call hb8); clear hb8) | (refine Cp.stepAlloc (T := 24) (cs := #[.int .u64 0, .int .u64 0, .int .u64 0, .int .u64 0]) rfl rfl (by intro u; kernel_rfl) HN.out ?_; intro g8 w8 hst8; have HN := Lib.hid hst8; clear hst8) | (refine St.stepRow rfl 24 (.tmp 10) (.tmp 42) rfl _ #[.int .u64 i0, .int .u64 i1, .int .u64 i2, .int .u64 i3] rfl rfl HN.out Cs.clInfo rfl (by simp [Value.oneCell']) ?_; intro w8 hst8; have HN := Lib.hid hst8; clear hst8) | (refine St.stepRow rfl 24 (.tmp 10) (.tmp 42) rfl _ #[.int .u64 i0, .int .u64 i1, .int .u64 i2, .int .u64 i3] rfl rfl HN.out.get2 Cs.clInfo rfl (by simp [Value.oneCell']) ?_; intro w8 hst8; have HN := Lib.hid hst8; clear hst8) | (refine St.stepRow rfl 24 (.tmp 11) (.tmp 46) rfl _ #[.int .u64 o0, .int .u64 o1, .int .u64 o2, .int .u64 o3] rfl rfl HN.out.get2 Cs.clInfo rfl (by simp [Value.oneCell']) ?_; intro w8 hst8; have HN := Lib.hid hst8; clear hst8))
                      refine hK.out _ _ ?_ (fun hHeld => ?_)
                      · (try dsimp only); (exact ⟨bkeep HN.out.bel x0, bkeep HN.out.bel x1, bkeep HN.out.bel x2, bkeep HN.out.bel x3, bkeep HN.out.bel z0, bkeep HN.out.bel z1, bkeep HN.out.bel z2, bkeep HN.out.bel z3⟩)
                      clear hK K
                      try simp only [List.getElem_toArray, List.getElem_cons_zero, List.getElem_cons_succ, Act.put, List.setIfInBounds_toArray, List.set_cons_zero, List.set_cons_succ]
                      refine wpAnyH_ready (rs := [8]) (by kernel_rfl) (by simp) ?_
                      refine AllReadyH.cons rfl (fun K hK => ?_) (AllReadyH.nil)
                      (first | (go_at_call 16; (first | (with_reducible refine (HC1.out _).mono ?_) | (with_reducible refine (HC3.out _).mono ?_)); rintro e w8 ⟨rfl, hb8⟩; have HN := Lib.hid (HN.out.call hb8); clear hb8) | (go_at_call 18; with_reducible refine (HC2.out _).mono ?_; rintro e w8 ⟨rfl, hb8⟩; have HN := Lib.hid (HN.out.call hb8); clear hb8) | (refine Cp.stepAlloc (T := 24) (cs := #[.int .u64 0, .int .u64 0, .int .u64 0, .int .u64 0]) rfl rfl (by intro u; kernel_rfl) HN.out ?_; intro g8 w8 hst8; have HN := Lib.hid hst8; clear hst8) | (refine St.stepRow rfl 24 (.tmp 10) (.tmp 42) rfl _ #[.int .u64 i0, .int .u64 i1, .int .u64 i2, .int .u64 i3] rfl rfl HN.out Cs.clInfo rfl (by simp [Value.oneCell']) ?_; intro w8 hst8; have HN := Lib.hid hst8; clear hst8) | (refine St.stepRow rfl 24 (.tmp 10) (.tmp 42) rfl _ #[.int .u64 i0, .int .u64 i1, .int .u64 i2, .int .u64 i3] rfl rfl HN.out.get2 Cs.clInfo rfl (by simp [Value.oneCell']) ?_; intro w8 hst8; have HN := Lib.hid hst8; clear hst8) | (refine St.stepRow rfl 24 (.tmp 11) (.tmp 46) rfl _ #[.int .u64 o0, .int .u64 o1, .int .u64 o2, .int .u64 o3] rfl rfl HN.out.get2 Cs.clInfo rfl (by simp [Value.oneCell']) ?_; intro w8 hst8; have HN := Lib.hid hst8; clear hst8))
                      refine hK.out _ _ ?_ (fun hHeld => ?_)
                      · (try dsimp only); (exact ⟨bkeep HN.out.bel x0, bkeep HN.out.bel x1, bkeep HN.out.bel x2, bkeep HN.out.bel x3, bkeep HN.out.bel z0, bkeep HN.out.bel z1, bkeep HN.out.bel z2, bkeep HN.out.bel z3⟩)
                      clear hK K
                      try simp only [List.getElem_toArray, List.getElem_cons_zero, List.getElem_cons_succ, Act.put, List.setIfInBounds_toArray, List.set_cons_zero, List.set_cons_succ]
                      refine wpAnyH_ready (rs := [9]) (by kernel_rfl) (by simp) ?_
                      refine AllReadyH.cons rfl (fun K hK => ?_) AllReadyH.nil
                      (first | (go_at_call 16; (first | (with_reducible refine (HC1.out _).mono ?_) | (with_reducible refine (HC3.out _).mono ?_)); rintro e w8 ⟨rfl, hb8⟩; have HN := Lib.hid (HN.out.call hb8); clear hb8) | (go_at_call 18; with_reducible refine (HC2.out _).mono ?_; rintro e w8 ⟨rfl, hb8⟩; have HN := Lib.hid (HN.out.call hb8); clear hb8) | (refine Cp.stepAlloc (T := 24) (cs := #[.int .u64 0, .int .u64 0, .int .u64 0, .int .u64 0]) rfl rfl (by intro u; kernel_rfl) HN.out ?_; intro g8 w8 hst8; have HN := Lib.hid hst8; clear hst8) | (refine St.stepRow rfl 24 (.tmp 10) (.tmp 42) rfl _ #[.int .u64 i0, .int .u64 i1, .int .u64 i2, .int .u64 i3] rfl rfl HN.out Cs.clInfo rfl (by simp [Value.oneCell']) ?_; intro w8 hst8; have HN := Lib.hid hst8; clear hst8) | (refine St.stepRow rfl 24 (.tmp 10) (.tmp 42) rfl _ #[.int .u64 i0, .int .u64 i1, .int .u64 i2, .int .u64 i3] rfl rfl HN.out.get2 Cs.clInfo rfl (by simp [Value.oneCell']) ?_; intro w8 hst8; have HN := Lib.hid hst8; clear hst8) | (refine St.stepRow rfl 24 (.tmp 11) (.tmp 46) rfl _ #[.int .u64 o0, .int .u64 o1, .int .u64 o2, .int .u64 o3] rfl rfl HN.out.get2 Cs.clInfo rfl (by simp [Value.oneCell']) ?_; intro w8 hst8; have HN := Lib.hid hst8; clear hst8))
                      refine hK.out _ _ ?_ (fun hHeld => ?_)
                      · (try dsimp only); (exact ⟨bkeep HN.out.bel x0, bkeep HN.out.bel x1, bkeep HN.out.bel x2, bkeep HN.out.bel x3, bkeep HN.out.bel z0, bkeep HN.out.bel z1, bkeep HN.out.bel z2, bkeep HN.out.bel z3⟩)
                      clear hK K
                      try simp only [List.getElem_toArray, List.getElem_cons_zero, List.getElem_cons_succ, Act.put, List.setIfInBounds_toArray, List.set_cons_zero, List.set_cons_succ]
                      refine wpAnyH_ready (rs := [10]) (by kernel_rfl) (by simp) ?_
                      refine AllReadyH.cons rfl (fun K hK => ?_) AllReadyH.nil
                      (first | (go_at_call 16; (first | (with_reducible refine (HC1.out _).mono ?_) | (with_reducible refine (HC3.out _).mono ?_)); rintro e w8 ⟨rfl, hb8⟩; have HN := Lib.hid (HN.out.call hb8); clear hb8) | (go_at_call 18; with_reducible refine (HC2.out _).mono ?_; rintro e w8 ⟨rfl, hb8⟩; have HN := Lib.hid (HN.out.call hb8); clear hb8) | (refine Cp.stepAlloc (T := 24) (cs := #[.int .u64 0, .int .u64 0, .int .u64 0, .int .u64 0]) rfl rfl (by intro u; kernel_rfl) HN.out ?_; intro g8 w8 hst8; have HN := Lib.hid hst8; clear hst8) | (refine St.stepRow rfl 24 (.tmp 10) (.tmp 42) rfl _ #[.int .u64 i0, .int .u64 i1, .int .u64 i2, .int .u64 i3] rfl rfl HN.out Cs.clInfo rfl (by simp [Value.oneCell']) ?_; intro w8 hst8; have HN := Lib.hid hst8; clear hst8) | (refine St.stepRow rfl 24 (.tmp 10) (.tmp 42) rfl _ #[.int .u64 i0, .int .u64 i1, .int .u64 i2, .int .u64 i3] rfl rfl HN.out.get2 Cs.clInfo rfl (by simp [Value.oneCell']) ?_; intro w8 hst8; have HN := Lib.hid hst8; clear hst8) | (refine St.stepRow rfl 24 (.tmp 11) (.tmp 46) rfl _ #[.int .u64 o0, .int .u64 o1, .int .u64 o2, .int .u64 o3] rfl rfl HN.out.get2 Cs.clInfo rfl (by simp [Value.oneCell']) ?_; intro w8 hst8; have HN := Lib.hid hst8; clear hst8))
                      refine hK.out _ _ ?_ (fun hHeld => ?_)
                      · (try dsimp only); (exact ⟨bkeep HN.out.bel x0, bkeep HN.out.bel x1, bkeep HN.out.bel x2, bkeep HN.out.bel x3, bkeep HN.out.bel z0, bkeep HN.out.bel z1, bkeep HN.out.bel z2, bkeep HN.out.bel z3⟩)
                      clear hK K
                      try simp only [List.getElem_toArray, List.getElem_cons_zero, List.getElem_cons_succ, Act.put, List.setIfInBounds_toArray, List.set_cons_zero, List.set_cons_succ]
                      refine wpAnyH_done (by kernel_rfl) ?_ _
                      exact REST _ _ _ (HST.out.join HN.out)
                    · skip
                      (first | (go_at_call 16; (first | (with_reducible refine (HC1.out _).mono ?_) | (with_reducible refine (HC3.out _).mono ?_)); rintro e w8 ⟨rfl, hb8⟩; have HN := Lib.hid (HN.out.call hb8); clear hb8) | (go_at_call 18; with_reducible refine (HC2.out _).mono ?_; rintro e w8 ⟨rfl, hb8⟩; have HN := Lib.hid (HN.out.call hb8); clear hb8) | (refine Cp.stepAlloc (T := 24) (cs := #[.int .u64 0, .int .u64 0, .int .u64 0, .int .u64 0]) rfl rfl (by intro u; kernel_rfl) HN.out ?_; intro g8 w8 hst8; have HN := Lib.hid hst8; clear hst8) | (refine St.stepRow rfl 24 (.tmp 10) (.tmp 42) rfl _ #[.int .u64 i0, .int .u64 i1, .int .u64 i2, .int .u64 i3] rfl rfl HN.out Cs.clInfo rfl (by simp [Value.oneCell']) ?_; intro w8 hst8; have HN := Lib.hid hst8; clear hst8) | (refine St.stepRow rfl 24 (.tmp 10) (.tmp 42) rfl _ #[.int .u64 i0, .int .u64 i1, .int .u64 i2, .int .u64 i3] rfl rfl HN.out.get2 Cs.clInfo rfl (by simp [Value.oneCell']) ?_; intro w8 hst8; have HN := Lib.hid hst8; clear hst8) | (refine St.stepRow rfl 24 (.tmp 11) (.tmp 46) rfl _ #[.int .u64 o0, .int .u64 o1, .int .u64 o2, .int .u64 o3] rfl rfl HN.out.get2 Cs.clInfo rfl (by simp [Value.oneCell']) ?_; intro w8 hst8; have HN := Lib.hid hst8; clear hst8))
                      refine hK.out _ _ ?_ (fun hHeld => ?_)
                      · (try dsimp only); (exact ⟨bkeep HN.out.bel x0, bkeep HN.out.bel x1, bkeep HN.out.bel x2, bkeep HN.out.bel x3, bkeep HN.out.bel z0, bkeep HN.out.bel z1, bkeep HN.out.bel z2, bkeep HN.out.bel z3⟩)
                      clear hK K
                      try simp only [List.getElem_toArray, List.getElem_cons_zero, List.getElem_cons_succ, Act.put, List.setIfInBounds_toArray, List.set_cons_zero, List.set_cons_succ]
                      refine wpAnyH_ready (rs := [6]) (by kernel_rfl) (by simp) ?_
                      refine AllReadyH.cons rfl (fun K hK => ?_) (AllReadyH.nil)
                      go_simp
                      (first | (go_at_call 16; (first | (with_reducible refine (HC1.out _).mono ?_) | (with_reducible refine (HC3.out _).mono ?_)); rintro e w8 ⟨rfl, hb8⟩; have HN := Lib.hid (HN.out.call hb8); clear hb8) | (go_at_call 18; with_reducible refine (HC2.out _).mono ?_; rintro e w8 ⟨rfl, hb8⟩; have HN := Lib.hid (HN.out.call hb8); clear hb8) | (refine Cp.stepAlloc (T := 24) (cs := #[.int .u64 0, .int .u64 0, .int .u64 0, .int .u64 0]) rfl rfl (by intro u; kernel_rfl) HN.out ?_; intro g8 w8 hst8; have HN := Lib.hid hst8; clear hst8) | (refine St.stepRow rfl 24 (.tmp 10) (.tmp 42) rfl _ #[.int .u64 i0, .int .u64 i1, .int .u64 i2, .int .u64 i3] rfl rfl HN.out Cs.clInfo rfl (by simp [Value.oneCell']) ?_; intro w8 hst8; have HN := Lib.hid hst8; clear hst8) | (refine St.stepRow rfl 24 (.tmp 10) (.tmp 42) rfl _ #[.int .u64 i0, .int .u64 i1, .int .u64 i2, .int .u64 i3] rfl rfl HN.out.get2 Cs.clInfo rfl (by simp [Value.oneCell']) ?_; intro w8 hst8; have HN := Lib.hid hst8; clear hst8) | (refine St.stepRow rfl 24 (.tmp 11) (.tmp 46) rfl _ #[.int .u64 o0, .int .u64 o1, .int .u64 o2, .int .u64 o3] rfl rfl HN.out.get2 Cs.clInfo rfl (by simp [Value.oneCell']) ?_; intro w8 hst8; have HN := Lib.hid hst8; clear hst8))
                      refine hK.out _ _ ?_ (fun hHeld => ?_)
                      · (try dsimp only); (exact ⟨bkeep HN.out.bel x0, bkeep HN.out.bel x1, bkeep HN.out.bel x2, bkeep HN.out.bel x3, bkeep HN.out.bel z0, bkeep HN.out.bel z1, bkeep HN.out.bel z2, bkeep HN.out.bel z3⟩)
                      clear hK K
                      try simp only [List.getElem_toArray, List.getElem_cons_zero, List.getElem_cons_succ, Act.put, List.setIfInBounds_toArray, List.set_cons_zero, List.set_cons_succ]
                      refine wpAnyH_ready (rs := [9]) (by kernel_rfl) (by simp) ?_
                      refine AllReadyH.cons rfl (fun K hK => ?_) AllReadyH.nil
                      (first | (go_at_call 16; (first | (with_reducible refine (HC1.out _).mono ?_) | (with_reducible refine (HC3.out _).mono ?_)); rintro e w8 ⟨rfl, hb8⟩; have HN := Lib.hid (HN.out.call hb8); clear hb8) | (go_at_call 18; with_reducible refine (HC2.out _).mono ?_; rintro e w8 ⟨rfl, hb8⟩; have HN := Lib.hid (HN.out.call hb8); clear hb8) | (refine Cp.stepAlloc (T := 24) (cs := #[.int .u64 0, .int .u64 0, .int .u64 0, .int .u64 0]) rfl rfl (by intro u; kernel_rfl) HN.out ?_; intro g8 w8 hst8; have HN := Lib.hid hst8; clear hst8) | (refine St.stepRow rfl 24 (.tmp 10) (.tmp 42) rfl _ #[.int .u64 i0, .int .u64 i1, .int .u64 i2, .int .u64 i3] rfl rfl HN.out Cs.clInfo rfl (by simp [Value.oneCell']) ?_; intro w8 hst8; have HN := Lib.hid hst8; clear hst8) | (refine St.stepRow rfl 24 (.tmp 10) (.tmp 42) rfl _ #[.int .u64 i0, .int .u64 i1, .int .u64 i2, .int .u64 i3] rfl rfl HN.out.get2 Cs.clInfo rfl (by simp [Value.oneCell']) ?_; intro w8 hst8; have HN := Lib.hid hst8; clear hst8) | (refine St.stepRow rfl 24 (.tmp 11) (.tmp 46) rfl _ #[.int .u64 o0, .int .u64 o1, .int .u64 o2, .int .u64 o3] rfl rfl HN.out.get2 Cs.clInfo rfl (by simp [Value.oneCell']) ?_; intro w8 hst8; have HN := Lib.hid hst8; clear hst8))
                      refine hK.out _ _ ?_ (fun hHeld => ?_)
                      · (try dsimp only); (exact ⟨bkeep HN.out.bel x0, bkeep HN.out.bel x1, bkeep HN.out.bel x2, bkeep HN.out.bel x3, bkeep HN.out.bel z0, bkeep HN.out.bel z1, bkeep HN.out.bel z2, bkeep HN.out.bel z3⟩)
                      clear hK K
                      try simp only [List.getElem_toArray, List.getElem_cons_zero, List.getElem_cons_succ, Act.put, List.setIfInBounds_toArray, List.set_cons_zero, List.set_cons_succ]
                      refine wpAnyH_ready (rs := [10]) (by kernel_rfl) (by simp) ?_
                      refine AllReadyH.cons rfl (fun K hK => ?_) AllReadyH.nil
                      (first | (go_at_call 16; (first | (with_reducible refine (HC1.out _).mono ?_) | (with_reducible refine (HC3.out _).mono ?_)); rintro e w8 ⟨rfl, hb8⟩; have HN := Lib.hid (HN.out.call hb8); clear hb8) | (go_at_call 18; with_reducible refine (HC2.out _).mono ?_; rintro e w8 ⟨rfl, hb8⟩; have HN := Lib.hid (HN.out.call hb8); clear hb8) | (refine Cp.stepAlloc (T := 24) (cs := #[.int .u64 0, .int .u64 0, .int .u64 0, .int .u64 0]) rfl rfl (by intro u; kernel_rfl) HN.out ?_; intro g8 w8 hst8; have HN := Lib.hid hst8; clear hst8) | (refine St.stepRow rfl 24 (.tmp 10) (.tmp 42) rfl _ #[.int .u64 i0, .int .u64 i1, .int .u64 i2, .int .u64 i3] rfl rfl HN.out Cs.clInfo rfl (by simp [Value.oneCell']) ?_; intro w8 hst8; have HN := Lib.hid hst8; clear hst8) | (refine St.stepRow rfl 24 (.tmp 10) (.tmp 42) rfl _ #[.int .u64 i0, .int .u64 i1, .int .u64 i2, .int .u64 i3] rfl rfl HN.out.get2 Cs.clInfo rfl (by simp [Value.oneCell']) ?_; intro w8 hst8; have HN := Lib.hid hst8; clear hst8) | (refine St.stepRow rfl 24 (.tmp 11) (.tmp 46) rfl _ #[.int .u64 o0, .int .u64 o1, .int .u64 o2, .int .u64 o3] rfl rfl HN.out.get2 Cs.clInfo rfl (by simp [Value.oneCell']) ?_; intro w8 hst8; have HN := Lib.hid hst8; clear hst8))
                      refine hK.out _ _ ?_ (fun hHeld => ?_)
                      · (try dsimp only); (exact ⟨bkeep HN.out.bel x0, bkeep HN.out.bel x1, bkeep HN.out.bel x2, bkeep HN.out.bel x3, bkeep HN.out.bel z0, bkeep HN.out.bel z1, bkeep HN.out.bel z2, bkeep HN.out.bel z3⟩)
                      clear hK K
                      try simp only [List.getElem_toArray, List.getElem_cons_zero, List.getElem_cons_succ, Act.put, List.setIfInBounds_toArray, List.set_cons_zero, List.set_cons_succ]
                      refine wpAnyH_done (by kernel_rfl) ?_ _
                      exact REST _ _ _ (HST.out.join HN.out)
                  · skip
                    (first | (go_at_call 16; (first | (with_reducible refine (HC1.out _).mono ?_) | (with_reducible refine (HC3.out _).mono ?_)); rintro e w8 ⟨rfl, hb8⟩; have HN := Lib.hid (HN.out.call hb8); clear hb8) | (go_at_call 18; with_reducible refine (HC2.out _).mono ?_; rintro e w8 ⟨rfl, hb8⟩; have HN := Lib.hid (HN.out.call hb8); clear hb8) | (refine Cp.stepAlloc (T := 24) (cs := #[.int .u64 0, .int .u64 0, .int .u64 0, .int .u64 0]) rfl rfl (by intro u; kernel_rfl) HN.out ?_; intro g8 w8 hst8; have HN := Lib.hid hst8; clear hst8) | (refine St.stepRow rfl 24 (.tmp 10) (.tmp 42) rfl _ #[.int .u64 i0, .int .u64 i1, .int .u64 i2, .int .u64 i3] rfl rfl HN.out Cs.clInfo rfl (by simp [Value.oneCell']) ?_; intro w8 hst8; have HN := Lib.hid hst8; clear hst8) | (refine St.stepRow rfl 24 (.tmp 10) (.tmp 42) rfl _ #[.int .u64 i0, .int .u64 i1, .int .u64 i2, .int .u64 i3] rfl rfl HN.out.get2 Cs.clInfo rfl (by simp [Value.oneCell']) ?_; intro w8 hst8; have HN := Lib.hid hst8; clear hst8) | (refine St.stepRow rfl 24 (.tmp 11) (.tmp 46) rfl _ #[.int .u64 o0, .int .u64 o1, .int .u64 o2, .int .u64 o3] rfl rfl HN.out.get2 Cs.clInfo rfl (by simp [Value.oneCell']) ?_; intro w8 hst8; have HN := Lib.hid hst8; clear hst8))
                    refine hK.out _ _ ?_ (fun hHeld => ?_)
                    · (try dsimp only); (exact ⟨bkeep HN.out.bel x0, bkeep HN.out.bel x1, bkeep HN.out.bel x2, bkeep HN.out.bel x3, bkeep HN.out.bel z0, bkeep HN.out.bel z1, bkeep HN.out.bel z2, bkeep HN.out.bel z3⟩)
                    clear hK K
                    try simp only [List.getElem_toArray, List.getElem_cons_zero, List.getElem_cons_succ, Act.put, List.setIfInBounds_toArray, List.set_cons_zero, List.set_cons_succ]
                    refine wpAnyH_ready (rs := [5]) (by kernel_rfl) (by simp) ?_
                    refine AllReadyH.cons rfl (fun K hK => ?_) (AllReadyH.nil)
                    go_simp
                    (first | (go_at_call 16; (first | (with_reducible refine (HC1.out _).mono ?_) | (with_reducible refine (HC3.out _).mono ?_)); rintro e w8 ⟨rfl, hb8⟩; have HN := Lib.hid (HN.out.call hb8); clear hb8) | (go_at_call 18; with_reducible refine (HC2.out _).mono ?_; rintro e w8 ⟨rfl, hb8⟩; have HN := Lib.hid (HN.out.call hb8); clear hb8) | (refine Cp.stepAlloc (T := 24) (cs := #[.int .u64 0, .int .u64 0, .int .u64 0, .int .u64 0]) rfl rfl (by intro u; kernel_rfl) HN.out ?_; intro g8 w8 hst8; have HN := Lib.hid hst8; clear hst8) | (refine St.stepRow rfl 24 (.tmp 10) (.tmp 42) rfl _ #[.int .u64 i0, .int .u64 i1, .int .u64 i2, .int .u64 i3] rfl rfl HN.out Cs.clInfo rfl (by simp [Value.oneCell']) ?_; intro w8 hst8; have HN := Lib.hid hst8; clear hst8) | (refine St.stepRow rfl 24 (.tmp 10) (.tmp 42) rfl _ #[.int .u64 i0, .int .u64 i1, .int .u64 i2, .int .u64 i3] rfl rfl HN.out.get2 Cs.clInfo rfl (by simp [Value.oneCell']) ?_; intro w8 hst8; have HN := Lib.hid hst8; clear hst8) | (refine St.stepRow rfl 24 (.tmp 11) (.tmp 46) rfl _ #[.int .u64 o0, .int .u64 o1, .int .u64 o2, .int .u64 o3] rfl rfl HN.out.get2 Cs.clInfo rfl (by simp [Value.oneCell']) ?_; intro w8 hst8; have HN := Lib.hid hst8; clear hst8))
                    refine hK.out _ _ ?_ (fun hHeld => ?_)
                    · (try dsimp only); (exact ⟨bkeep HN.out.bel x0, bkeep HN.out.bel x1, bkeep HN.out.bel x2, bkeep HN.out.bel x3, bkeep HN.out.bel z0, bkeep HN.out.bel z1, bkeep HN.out.bel z2, bkeep HN.out.bel z3⟩)
                    clear hK K
                    try simp only [List.getElem_toArray, List.getElem_cons_zero, List.getElem_cons_succ, Act.put, List.setIfInBounds_toArray, List.set_cons_zero, List.set_cons_succ]
                    refine wpAnyH_ready (rs := [6]) (by kernel_rfl) (by simp) ?_
                    refine AllReadyH.cons rfl (fun K hK => ?_) (AllReadyH.nil)
                    go_simp
                    (first | (go_at_call 16; (first | (with_reducible refine (HC1.out _).mono ?_) | (with_reducible refine (HC3.out _).mono ?_)); rintro e w8 ⟨rfl, hb8⟩; have HN := Lib.hid (HN.out.call hb8); clear hb8) | (go_at_call 18; with_reducible refine (HC2.out _).mono ?_; rintro e w8 ⟨rfl, hb8⟩; have HN := Lib.hid (HN.out.call hb8); clear hb8) | (refine Cp.stepAlloc (T := 24) (cs := #[.int .u64 0, .int .u64 0, .int .u64 0, .int .u64 0]) rfl rfl (by intro u; kernel_rfl) HN.out ?_; intro g8 w8 hst8; have HN := Lib.hid hst8; clear hst8) | (refine St.stepRow rfl 24 (.tmp 10) (.tmp 42) rfl _ #[.int .u64 i0, .int .u64 i1, .int .u64 i2, .int .u64 i3] rfl rfl HN.out Cs.clInfo rfl (by simp [Value.oneCell']) ?_; intro w8 hst8; have HN := Lib.hid hst8; clear hst8) | (refine St.stepRow rfl 24 (.tmp 10) (.tmp 42) rfl _ #[.int .u64 i0, .int .u64 i1, .int .u64 i2, .int .u64 i3] rfl rfl HN.out.get2 Cs.clInfo rfl (by simp [Value.oneCell']) ?_; intro w8 hst8; have HN := Lib.hid hst8; clear hst8) | (refine St.stepRow rfl 24 (.tmp 11) (.tmp 46) rfl _ #[.int .u64 o0, .int .u64 o1, .int .u64 o2, .int .u64 o3] rfl rfl HN.out.get2 Cs.clInfo rfl (by simp [Value.oneCell']) ?_; intro w8 hst8; have HN := Lib.hid hst8; clear hst8))
                    refine hK.out _ _ ?_ (fun hHeld => ?_)
                    · (try dsimp only); (exact ⟨bkeep HN.out.bel x0, bkeep HN.out.bel x1, bkeep HN.out.bel x2, bkeep HN.out.bel x3, bkeep HN.out.bel z0, bkeep HN.out.bel z1, bkeep HN.out.bel z2, bkeep HN.out.bel z3⟩)
                    clear hK K
                    try simp only [List.getElem_toArray, List.getElem_cons_zero, List.getElem_cons_succ, Act.put, List.setIfInBounds_toArray, List.set_cons_zero, List.set_cons_succ]
                    refine wpAnyH_ready (rs := [9]) (by kernel_rfl) (by simp) ?_
                    refine AllReadyH.cons rfl (fun K hK => ?_) AllReadyH.nil
                    (first | (go_at_call 16; (first | (with_reducible refine (HC1.out _).mono ?_) | (with_reducible refine (HC3.out _).mono ?_)); rintro e w8 ⟨rfl, hb8⟩; have HN := Lib.hid (HN.out.call hb8); clear hb8) | (go_at_call 18; with_reducible refine (HC2.out _).mono ?_; rintro e w8 ⟨rfl, hb8⟩; have HN := Lib.hid (HN.out.call hb8); clear hb8) | (refine Cp.stepAlloc (T := 24) (cs := #[.int .u64 0, .int .u64 0, .int .u64 0, .int .u64 0]) rfl rfl (by intro u; kernel_rfl) HN.out ?_; intro g8 w8 hst8; have HN := Lib.hid hst8; clear hst8) | (refine St.stepRow rfl 24 (.tmp 10) (.tmp 42) rfl _ #[.int .u64 i0, .int .u64 i1, .int .u64 i2, .int .u64 i3] rfl rfl HN.out Cs.clInfo rfl (by simp [Value.oneCell']) ?_; intro w8 hst8; have HN := Lib.hid hst8; clear hst8) | (refine St.stepRow rfl 24 (.tmp 10) (.tmp 42) rfl _ #[.int .u64 i0, .int .u64 i1, .int .u64 i2, .int .u64 i3] rfl rfl HN.out.get2 Cs.clInfo rfl (by simp [Value.oneCell']) ?_; intro w8 hst8; have HN := Lib.hid hst8; clear hst8) | (refine St.stepRow rfl 24 (.tmp 11) (.tmp 46) rfl _ #[.int .u64 o0, .int .u64 o1, .int .u64 o2, .int .u64 o3] rfl rfl HN.out.get2 Cs.clInfo rfl (by simp [Value.oneCell']) ?_; intro w8 hst8; have HN := Lib.hid hst8; clear hst8))
                    refine hK.out _ _ ?_ (fun hHeld => ?_)
                    · (try dsimp only); (exact ⟨bkeep HN.out.bel x0, bkeep HN.out.bel x1, bkeep HN.out.bel x2, bkeep HN.out.bel x3, bkeep HN.out.bel z0, bkeep HN.out.bel z1, bkeep HN.out.bel z2, bkeep HN.out.bel z3⟩)
                    clear hK K
                    try simp only [List.getElem_toArray, List.getElem_cons_zero, List.getElem_cons_succ, Act.put, List.setIfInBounds_toArray, List.set_cons_zero, List.set_cons_succ]
                    refine wpAnyH_ready (rs := [10]) (by kernel_rfl) (by simp) ?_
                    refine AllReadyH.cons rfl (fun K hK => ?_) AllReadyH.nil
                    (first | (go_at_call 16; (first | (with_reducible refine (HC1.out _).mono ?_) | (with_reducible refine (HC3.out _).mono ?_)); rintro e w8 ⟨rfl, hb8⟩; have HN := Lib.hid (HN.out.call hb8); clear hb8) | (go_at_call 18; with_reducible refine (HC2.out _).mono ?_; rintro e w8 ⟨rfl, hb8⟩; have HN := Lib.hid (HN.out.call hb8); clear hb8) | (refine Cp.stepAlloc (T := 24) (cs := #[.int .u64 0, .int .u64 0, .int .u64 0, .int .u64 0]) rfl rfl (by intro u; kernel_rfl) HN.out ?_; intro g8 w8 hst8; have HN := Lib.hid hst8; clear hst8) | (refine St.stepRow rfl 24 (.tmp 10) (.tmp 42) rfl _ #[.int .u64 i0, .int .u64 i1, .int .u64 i2, .int .u64 i3] rfl rfl HN.out Cs.clInfo rfl (by simp [Value.oneCell']) ?_; intro w8 hst8; have HN := Lib.hid hst8; clear hst8) | (refine St.stepRow rfl 24 (.tmp 10) (.tmp 42) rfl _ #[.int .u64 i0, .int .u64 i1, .int .u64 i2, .int .u64 i3] rfl rfl HN.out.get2 Cs.clInfo rfl (by simp [Value.oneCell']) ?_; intro w8 hst8; have HN := Lib.hid hst8; clear hst8) | (refine St.stepRow rfl 24 (.tmp 11) (.tmp 46) rfl _ #[.int .u64 o0, .int .u64 o1, .int .u64 o2, .int .u64 o3] rfl rfl HN.out.get2 Cs.clInfo rfl (by simp [Value.oneCell']) ?_; intro w8 hst8; have HN := Lib.hid hst8; clear hst8))
                    refine hK.out _ _ ?_ (fun hHeld => ?_)
                    · (try dsimp only); (exact ⟨bkeep HN.out.bel x0, bkeep HN.out.bel x1, bkeep HN.out.bel x2, bkeep HN.out.bel x3, bkeep HN.out.bel z0, bkeep HN.out.bel z1, bkeep HN.out.bel z2, bkeep HN.out.bel z3⟩)
                    clear hK K
                    try simp only [List.getElem_toArray, List.getElem_cons_zero, List.getElem_cons_succ, Act.put, List.setIfInBounds_toArray, List.set_cons_zero, List.set_cons_succ]
                    refine wpAnyH_done (by kernel_rfl) ?_ _
                    exact REST _ _ _ (HST.out.join HN.out)
                · skip
                  (first | (go_at_call 16; (first | (with_reducible refine (HC1.out _).mono ?_) | (with_reducible refine (HC3.out _).mono ?_)); rintro e w8 ⟨rfl, hb8⟩; have HN := Lib.hid (HN.out.call hb8); clear hb8) | (go_at_call 18; with_reducible refine (HC2.out _).mono ?_; rintro e w8 ⟨rfl, hb8⟩; have HN := Lib.hid (HN.out.call hb8); clear hb8) | (refine Cp.stepAlloc (T := 24) (cs := #[.int .u64 0, .int .u64 0, .int .u64 0, .int .u64 0]) rfl rfl (by intro u; kernel_rfl) HN.out ?_; intro g8 w8 hst8; have HN := Lib.hid hst8; clear hst8) | (refine St.stepRow rfl 24 (.tmp 10) (.tmp 42) rfl _ #[.int .u64 i0, .int .u64 i1, .int .u64 i2, .int .u64 i3] rfl rfl HN.out Cs.clInfo rfl (by simp [Value.oneCell']) ?_; intro w8 hst8; have HN := Lib.hid hst8; clear hst8) | (refine St.stepRow rfl 24 (.tmp 10) (.tmp 42) rfl _ #[.int .u64 i0, .int .u64 i1, .int .u64 i2, .int .u64 i3] rfl rfl HN.out.get2 Cs.clInfo rfl (by simp [Value.oneCell']) ?_; intro w8 hst8; have HN := Lib.hid hst8; clear hst8) | (refine St.stepRow rfl 24 (.tmp 11) (.tmp 46) rfl _ #[.int .u64 o0, .int .u64 o1, .int .u64 o2, .int .u64 o3] rfl rfl HN.out.get2 Cs.clInfo rfl (by simp [Value.oneCell']) ?_; intro w8 hst8; have HN := Lib.hid hst8; clear hst8))
                  refine hK.out _ _ ?_ (fun hHeld => ?_)
                  · (try dsimp only); (exact ⟨bkeep HN.out.bel x0, bkeep HN.out.bel x1, bkeep HN.out.bel x2, bkeep HN.out.bel x3, bkeep HN.out.bel z0, bkeep HN.out.bel z1, bkeep HN.out.bel z2, bkeep HN.out.bel z3⟩)
                  clear hK K
                  try simp only [List.getElem_toArray, List.getElem_cons_zero, List.getElem_cons_succ, Act.put, List.setIfInBounds_toArray, List.set_cons_zero, List.set_cons_succ]
                  refine wpAnyH_ready (rs := [2]) (by kernel_rfl) (by simp) ?_
                  refine AllReadyH.cons rfl (fun K hK => ?_) (AllReadyH.nil)
                  go_simp
                  (first | (go_at_call 16; (first | (with_reducible refine (HC1.out _).mono ?_) | (with_reducible refine (HC3.out _).mono ?_)); rintro e w8 ⟨rfl, hb8⟩; have HN := Lib.hid (HN.out.call hb8); clear hb8) | (go_at_call 18; with_reducible refine (HC2.out _).mono ?_; rintro e w8 ⟨rfl, hb8⟩; have HN := Lib.hid (HN.out.call hb8); clear hb8) | (refine Cp.stepAlloc (T := 24) (cs := #[.int .u64 0, .int .u64 0, .int .u64 0, .int .u64 0]) rfl rfl (by intro u; kernel_rfl) HN.out ?_; intro g8 w8 hst8; have HN := Lib.hid hst8; clear hst8) | (refine St.stepRow rfl 24 (.tmp 10) (.tmp 42) rfl _ #[.int .u64 i0, .int .u64 i1, .int .u64 i2, .int .u64 i3] rfl rfl HN.out Cs.clInfo rfl (by simp [Value.oneCell']) ?_; intro w8 hst8; have HN := Lib.hid hst8; clear hst8) | (refine St.stepRow rfl 24 (.tmp 10) (.tmp 42) rfl _ #[.int .u64 i0, .int .u64 i1, .int .u64 i2, .int .u64 i3] rfl rfl HN.out.get2 Cs.clInfo rfl (by simp [Value.oneCell']) ?_; intro w8 hst8; have HN := Lib.hid hst8; clear hst8) | (refine St.stepRow rfl 24 (.tmp 11) (.tmp 46) rfl _ #[.int .u64 o0, .int .u64 o1, .int .u64 o2, .int .u64 o3] rfl rfl HN.out.get2 Cs.clInfo rfl (by simp [Value.oneCell']) ?_; intro w8 hst8; have HN := Lib.hid hst8; clear hst8))
                  refine hK.out _ _ ?_ (fun hHeld => ?_)
                  · (try dsimp only); (exact ⟨bkeep HN.out.bel x0, bkeep HN.out.bel x1, bkeep HN.out.bel x2, bkeep HN.out.bel x3, bkeep HN.out.bel z0, bkeep HN.out.bel z1, bkeep HN.out.bel z2, bkeep HN.out.bel z3⟩)
                  clear hK K
                  try simp only [List.getElem_toArray, List.getElem_cons_zero, List.getElem_cons_succ, Act.put, List.setIfInBounds_toArray, List.set_cons_zero, List.set_cons_succ]
                  refine wpAnyH_ready (rs := [5]) (by kernel_rfl) (by simp) ?_
                  refine AllReadyH.cons rfl (fun K hK => ?_) (AllReadyH.nil)
                  go_simp
                  (first | (go_at_call 16; (first | (with_reducible refine (HC1.out _).mono ?_) | (with_reducible refine (HC3.out _).mono ?_)); rintro e w8 ⟨rfl, hb8⟩; have HN := Lib.hid (HN.out.call hb8); clear hb8) | (go_at_call 18; with_reducible refine (HC2.out _).mono ?_; rintro e w8 ⟨rfl, hb8⟩; have HN := Lib.hid (HN.out.call hb8); clear hb8) | (refine Cp.stepAlloc (T := 24) (cs := #[.int .u64 0, .int .u64 0, .int .u64 0, .int .u64 0]) rfl rfl (by intro u; kernel_rfl) HN.out ?_; intro g8 w8 hst8; have HN := Lib.hid hst8; clear hst8) | (refine St.stepRow rfl 24 (.tmp 10) (.tmp 42) rfl _ #[.int .u64 i0, .int .u64 i1, .int .u64 i2, .int .u64 i3] rfl rfl HN.out Cs.clInfo rfl (by simp [Value.oneCell']) ?_; intro w8 hst8; have HN := Lib.hid hst8; clear hst8) | (refine St.stepRow rfl 24 (.tmp 10) (.tmp 42) rfl _ #[.int .u64 i0, .int .u64 i1, .int .u64 i2, .int .u64 i3] rfl rfl HN.out.get2 Cs.clInfo rfl (by simp [Value.oneCell']) ?_; intro w8 hst8; have HN := Lib.hid hst8; clear hst8) | (refine St.stepRow rfl 24 (.tmp 11) (.tmp 46) rfl _ #[.int .u64 o0, .int .u64 o1, .int .u64 o2, .int .u64 o3] rfl rfl HN.out.get2 Cs.clInfo rfl (by simp [Value.oneCell']) ?_; intro w8 hst8; have HN := Lib.hid hst8; clear hst8))
                  refine hK.out _ _ ?_ (fun hHeld => ?_)
                  · (try dsimp only); (exact ⟨bkeep HN.out.bel x0, bkeep HN.out.bel x1, bkeep HN.out.bel x2, bkeep HN.out.bel x3, bkeep HN.out.bel z0, bkeep HN.out.bel z1, bkeep HN.out.bel z2, bkeep HN.out.bel z3⟩)
                  clear hK K
                  try simp only [List.getElem_toArray, List.getElem_cons_zero, List.getElem_cons_succ, Act.put, List.setIfInBounds_toArray, List.set_cons_zero, List.set_cons_succ]
                  refine wpAnyH_ready (rs := [6]) (by kernel_rfl) (by simp) ?_
                  refine AllReadyH.cons rfl (fun K hK => ?_) (AllReadyH.nil)
                  go_simp
                  (first | (go_at_call 16; (first | (with_reducible refine (HC1.out _).mono ?_) | (with_reducible refine (HC3.out _).mono ?_)); rintro e w8 ⟨rfl, hb8⟩; have HN := Lib.hid (HN.out.call hb8); clear hb8) | (go_at_call 18; with_reducible refine (HC2.out _).mono ?_; rintro e w8 ⟨rfl, hb8⟩; have HN := Lib.hid (HN.out.call hb8); clear hb8) | (refine Cp.stepAlloc (T := 24) (cs := #[.int .u64 0, .int .u64 0, .int .u64 0, .int .u64 0]) rfl rfl (by intro u; kernel_rfl) HN.out ?_; intro g8 w8 hst8; have HN := Lib.hid hst8; clear hst8) | (refine St.stepRow rfl 24 (.tmp 10) (.tmp 42) rfl _ #[.int .u64 i0, .int .u64 i1, .int .u64 i2, .int .u64 i3] rfl rfl HN.out Cs.clInfo rfl (by simp [Value.oneCell']) ?_; intro w8 hst8; have HN := Lib.hid hst8; clear hst8) | (refine St.stepRow rfl 24 (.tmp 10) (.tmp 42) rfl _ #[.int .u64 i0, .int .u64 i1, .int .u64 i2, .int .u64 i3] rfl rfl HN.out.get2 Cs.clInfo rfl (by simp [Value.oneCell']) ?_; intro w8 hst8; have HN := Lib.hid hst8; clear hst8) | (refine St.stepRow rfl 24 (.tmp 11) (.tmp 46) rfl _ #[.int .u64 o0, .int .u64 o1, .int .u64 o2, .int .u64 o3] rfl rfl HN.out.get2 Cs.clInfo rfl (by simp [Value.oneCell']) ?_; intro w8 hst8; have HN := Lib.hid hst8; clear hst8))
                  refine hK.out _ _ ?_ (fun hHeld => ?_)
                  · (try dsimp only); (exact ⟨bkeep HN.out.bel x0, bkeep HN.out.bel x1, bkeep HN.out.bel x2, bkeep HN.out.bel x3, bkeep HN.out.bel z0, bkeep HN.out.bel z1, bkeep HN.out.bel z2, bkeep HN.out.bel z3⟩)
                  clear hK K
                  try simp only [List.getElem_toArray, List.getElem_cons_zero, List.getElem_cons_succ, Act.put, List.setIfInBounds_toArray, List.set_cons_zero, List.set_cons_succ]
                  refine wpAnyH_ready (rs := [9]) (by kernel_rfl) (by simp) ?_
                  refine AllReadyH.cons rfl (fun K hK => ?_) AllReadyH.nil
                  (first | (go_at_call 16; (first | (with_reducible refine (HC1.out _).mono ?_) | (with_reducible refine (HC3.out _).mono ?_)); rintro e w8 ⟨rfl, hb8⟩; have HN := Lib.hid (HN.out.call hb8); clear hb8) | (go_at_call 18; with_reducible refine (HC2.out _).mono ?_; rintro e w8 ⟨rfl, hb8⟩; have HN := Lib.hid (HN.out.call hb8); clear hb8) | (refine Cp.stepAlloc (T := 24) (cs := #[.int .u64 0, .int .u64 0, .int .u64 0, .int .u64 0]) rfl rfl (by intro u; kernel_rfl) HN.out ?_; intro g8 w8 hst8; have HN := Lib.hid hst8; clear hst8) | (refine St.stepRow rfl 24 (.tmp 10) (.tmp 42) rfl _ #[.int .u64 i0, .int .u64 i1, .int .u64 i2, .int .u64 i3] rfl rfl HN.out Cs.clInfo rfl (by simp [Value.oneCell']) ?_; intro w8 hst8; have HN := Lib.hid hst8; clear hst8) | (refine St.stepRow rfl 24 (.tmp 10) (.tmp 42) rfl _ #[.int .u64 i0, .int .u64 i1, .int .u64 i2, .int .u64 i3] rfl rfl HN.out.get2 Cs.clInfo rfl (by simp [Value.oneCell']) ?_; intro w8 hst8; have HN := Lib.hid hst8; clear hst8) | (refine St.stepRow rfl 24 (.tmp 11) (.tmp 46) rfl _ #[.int .u64 o0, .int .u64 o1, .int .u64 o2, .int .u64 o3] rfl rfl HN.out.get2 Cs.clInfo rfl (by simp [Value.oneCell']) ?_; intro w8 hst8; have HN := Lib.hid hst8; clear hst8))
                  refine hK.out _ _ ?_ (fun hHeld => ?_)
                  · (try dsimp only); (exact ⟨bkeep HN.out.bel x0, bkeep HN.out.bel x1, bkeep HN.out.bel x2, bkeep HN.out.bel x3, bkeep HN.out.bel z0, bkeep HN.out.bel z1, bkeep HN.out.bel z2, bkeep HN.out.bel z3⟩)
                  clear hK K
                  try simp only [List.getElem_toArray, List.getElem_cons_zero, List.getElem_cons_succ, Act.put, List.setIfInBounds_toArray, List.set_cons_zero, List.set_cons_succ]
                  refine wpAnyH_ready (rs := [10]) (by kernel_rfl) (by simp) ?_
                  refine AllReadyH.cons rfl (fun K hK => ?_) AllReadyH.nil
                  (first | (go_at_call 16; (first | (with_reducible refine (HC1.out _).mono ?_) | (with_reducible refine (HC3.out _).mono ?_)); rintro e w8 ⟨rfl, hb8⟩; have HN := Lib.hid (HN.out.call hb8); clear hb8) | (go_at_call 18; with_reducible refine (HC2.out _).mono ?_; rintro e w8 ⟨rfl, hb8⟩; have HN := Lib.hid (HN.out.call hb8); clear hb8) | (refine Cp.stepAlloc (T := 24) (cs := #[.int .u64 0, .int .u64 0, .int .u64 0, .int .u64 0]) rfl rfl (by intro u; kernel_rfl) HN.out ?_; intro g8 w8 hst8; have HN := Lib.hid hst8; clear hst8) | (refine St.stepRow rfl 24 (.tmp 10) (.tmp 42) rfl _ #[.int .u64 i0, .int .u64 i1, .int .u64 i2, .int .u64 i3] rfl rfl HN.out Cs.clInfo rfl (by simp [Value.oneCell']) ?_; intro w8 hst8; have HN := Lib.hid hst8; clear hst8) | (refine St.stepRow rfl 24 (.tmp 10) (.tmp 42) rfl _ #[.int .u64 i0, .int .u64 i1, .int .u64 i2, .int .u64 i3] rfl rfl HN.out.get2 Cs.clInfo rfl (by simp [Value.oneCell']) ?_; intro w8 hst8; have HN := Lib.hid hst8; clear hst8) | (refine St.stepRow rfl 24 (.tmp 11) (.tmp 46) rfl _ #[.int .u64 o0, .int .u64 o1, .int .u64 o2, .int .u64 o3] rfl rfl HN.out.get2 Cs.clInfo rfl (by simp [Value.oneCell']) ?_; intro w8 hst8; have HN := Lib.hid hst8; clear hst8))
                  refine hK.out _ _ ?_ (fun hHeld => ?_)
                  · (try dsimp only); (exact ⟨bkeep HN.out.bel x0, bkeep HN.out.bel x1, bkeep HN.out.bel x2, bkeep HN.out.bel x3, bkeep HN.out.bel z0, bkeep HN.out.bel z1, bkeep HN.out.bel z2, bkeep HN.out.bel z3⟩)
                  clear hK K
                  try simp only [List.getElem_toArray, List.getElem_cons_zero, List.getElem_cons_succ, Act.put, List.setIfInBounds_toArray, List.set_cons_zero, List.set_cons_succ]
                  refine wpAnyH_done (by kernel_rfl) ?_ _
                  exact REST _ _ _ (HST.out.join HN.out)
              · skip
                (first | (go_at_call 16; (first | (with_reducible refine (HC1.out _).mono ?_) | (with_reducible refine (HC3.out _).mono ?_)); rintro e w8 ⟨rfl, hb8⟩; have HN := Lib.hid (HN.out.call hb8); clear hb8) | (go_at_call 18; with_reducible refine (HC2.out _).mono ?_; rintro e w8 ⟨rfl, hb8⟩; have HN := Lib.hid (HN.out.call hb8); clear hb8) | (refine Cp.stepAlloc (T := 24) (cs := #[.int .u64 0, .int .u64 0, .int .u64 0, .int .u64 0]) rfl rfl (by intro u; kernel_rfl) HN.out ?_; intro g8 w8 hst8; have HN := Lib.hid hst8; clear hst8) | (refine St.stepRow rfl 24 (.tmp 10) (.tmp 42) rfl _ #[.int .u64 i0, .int .u64 i1, .int .u64 i2, .int .u64 i3] rfl rfl HN.out Cs.clInfo rfl (by simp [Value.oneCell']) ?_; intro w8 hst8; have HN := Lib.hid hst8; clear hst8) | (refine St.stepRow rfl 24 (.tmp 10) (.tmp 42) rfl _ #[.int .u64 i0, .int .u64 i1, .int .u64 i2, .int .u64 i3] rfl rfl HN.out.get2 Cs.clInfo rfl (by simp [Value.oneCell']) ?_; intro w8 hst8; have HN := Lib.hid hst8; clear hst8) | (refine St.stepRow rfl 24 (.tmp 11) (.tmp 46) rfl _ #[.int .u64 o0, .int .u64 o1, .int .u64 o2, .int .u64 o3] rfl rfl HN.out.get2 Cs.clInfo rfl (by simp [Value.oneCell']) ?_; intro w8 hst8; have HN := Lib.hid hst8; clear hst8))
                refine hK.out _ _ ?_ (fun hHeld => ?_)
                · (try dsimp only); (exact ⟨bkeep HN.out.bel x0, bkeep HN.out.bel x1, bkeep HN.out.bel x2, bkeep HN.out.bel x3, bkeep HN.out.bel z0, bkeep HN.out.bel z1, bkeep HN.out.bel z2, bkeep HN.out.bel z3⟩)
                clear hK K
                try simp only [List.getElem_toArray, List.getElem_cons_zero, List.getElem_cons_succ, Act.put, List.setIfInBounds_toArray, List.set_cons_zero, List.set_cons_succ]
                refine wpAnyH_ready (rs := [2, 7]) (by kernel_rfl) (by simp) ?_
                refine AllReadyH.cons rfl (fun K hK => ?_) (AllReadyH.cons rfl (fun K hK => ?_) (AllReadyH.nil))
                · skip
                  go_simp
                  (first | (go_at_call 16; (first | (with_reducible refine (HC1.out _).mono ?_) | (with_reducible refine (HC3.out _).mono ?_)); rintro e w8 ⟨rfl, hb8⟩; have HN := Lib.hid (HN.out.call hb8); clear hb8) | (go_at_call 18; with_reducible refine (HC2.out _).mono ?_; rintro e w8 ⟨rfl, hb8⟩; have HN := Lib.hid (HN.out.call hb8); clear hb8) | (refine Cp.stepAlloc (T := 24) (cs := #[.int .u64 0, .int .u64 0, .int .u64 0, .int .u64 0]) rfl rfl (by intro u; kernel_rfl) HN.out ?_; intro g8 w8 hst8; have HN := Lib.hid hst8; clear hst8) | (refine St.stepRow rfl 24 (.tmp 10) (.tmp 42) rfl _ #[.int .u64 i0, .int .u64 i1, .int .u64 i2, .int .u64 i3] rfl rfl HN.out Cs.clInfo rfl (by simp [Value.oneCell']) ?_; intro w8 hst8; have HN := Lib.hid hst8; clear hst8) | (refine St.stepRow rfl 24 (.tmp 10) (.tmp 42) rfl _ #[.int .u64 i0, .int .u64 i1, .int .u64 i2, .int .u64 i3] rfl rfl HN.out.get2 Cs.clInfo rfl (by simp [Value.oneCell']) ?_; intro w8 hst8; have HN := Lib.hid hst8; clear hst8) | (refine St.stepRow rfl 24 (.tmp 11) (.tmp 46) rfl _ #[.int .u64 o0, .int .u64 o1, .int .u64 o2, .int .u64 o3] rfl rfl HN.out.get2 Cs.clInfo rfl (by simp [Value.oneCell']) ?_; intro w8 hst8; have HN := Lib.hid hst8; clear hst8))
                  refine hK.out _ _ ?_ (fun hHeld => ?_)
                  · (try dsimp only); (exact ⟨bkeep HN.out.bel x0, bkeep HN.out.bel x1, bkeep HN.out.bel x2, bkeep HN.out.bel x3, bkeep HN.out.bel z0, bkeep HN.out.bel z1, bkeep HN.out.bel z2, bkeep HN.out.bel z3⟩)
                  clear hK K
                  try simp only [List.getElem_toArray, List.getElem_cons_zero, List.getElem_cons_succ, Act.put, List.setIfInBounds_toArray, List.set_cons_zero, List.set_cons_succ]
                  refine wpAnyH_ready (rs := [5, 7]) (by kernel_rfl) (by simp) ?_
                  refine AllReadyH.cons rfl (fun K hK => ?_) (AllReadyH.cons rfl (fun K hK => ?_) (AllReadyH.nil))
                  · skip
                    go_simp
                    (first | (go_at_call 16; (first | (with_reducible refine (HC1.out _).mono ?_) | (with_reducible refine (HC3.out _).mono ?_)); rintro e w8 ⟨rfl, hb8⟩; have HN := Lib.hid (HN.out.call hb8); clear hb8) | (go_at_call 18; with_reducible refine (HC2.out _).mono ?_; rintro e w8 ⟨rfl, hb8⟩; have HN := Lib.hid (HN.out.call hb8); clear hb8) | (refine Cp.stepAlloc (T := 24) (cs := #[.int .u64 0, .int .u64 0, .int .u64 0, .int .u64 0]) rfl rfl (by intro u; kernel_rfl) HN.out ?_; intro g8 w8 hst8; have HN := Lib.hid hst8; clear hst8) | (refine St.stepRow rfl 24 (.tmp 10) (.tmp 42) rfl _ #[.int .u64 i0, .int .u64 i1, .int .u64 i2, .int .u64 i3] rfl rfl HN.out Cs.clInfo rfl (by simp [Value.oneCell']) ?_; intro w8 hst8; have HN := Lib.hid hst8; clear hst8) | (refine St.stepRow rfl 24 (.tmp 10) (.tmp 42) rfl _ #[.int .u64 i0, .int .u64 i1, .int .u64 i2, .int .u64 i3] rfl rfl HN.out.get2 Cs.clInfo rfl (by simp [Value.oneCell']) ?_; intro w8 hst8; have HN := Lib.hid hst8; clear hst8) | (refine St.stepRow rfl 24 (.tmp 11) (.tmp 46) rfl _ #[.int .u64 o0, .int .u64 o1, .int .u64 o2, .int .u64 o3] rfl rfl HN.out.get2 Cs.clInfo rfl (by simp [Value.oneCell']) ?_; intro w8 hst8; have HN := Lib.hid hst8; clear hst8))
                    refine hK.out _ _ ?_ (fun hHeld => ?_)
                    · (try dsimp only); (exact ⟨bkeep HN.out.bel x0, bkeep HN.out.bel x1, bkeep HN.out.bel x2, bkeep HN.out.bel x3, bkeep HN.out.bel z0, bkeep HN.out.bel z1, bkeep HN.out.bel z2, bkeep HN.out.bel z3⟩)
                    clear hK K
                    try simp only [List.getElem_toArray, List.getElem_cons_zero, List.getElem_cons_succ, Act.put, List.setIfInBounds_toArray, List.set_cons_zero, List.set_cons_succ]
                    refine wpAnyH_ready (rs := [6, 7]) (by kernel_rfl) (by simp) ?_
                    refine AllReadyH.cons rfl (fun K hK => ?_) (AllReadyH.cons rfl (fun K hK => ?_) (AllReadyH.nil))
                    · skip
                      go_simp
                      (first | (go_at_call 16; (first | (with_reducible refine (HC1.out _).mono ?_) | (with_reducible refine (HC3.out _).mono ?_)); rintro e w8 ⟨rfl, hb8⟩; have HN := Lib.hid (HN.out.call hb8); clear hb8) | (go_at_call 18; with_reducible refine (HC2.out _).mono ?_; rintro e w8 ⟨rfl, hb8⟩; have HN := Lib.hid (HN.out.call hb8); clear hb8) | (refine Cp.stepAlloc (T := 24) (cs := #[.int .u64 0, .int .u64 0, .int .u64 0, .int .u64 0]) rfl rfl (by intro u; kernel_rfl) HN.out ?_; intro g8 w8 hst8; have HN := Lib.hid hst8; clear hst8) | (refine St.stepRow rfl 24 (.tmp 10) (.tmp 42) rfl _ #[.int .u64 i0, .int .u64 i1, .int .u64 i2, .int .u64 i3] rfl rfl HN.out Cs.clInfo rfl (by simp [Value.oneCell']) ?_; intro w8 hst8; have HN := Lib.hid hst8; clear hst8) | (refine St.stepRow rfl 24 (.tmp 10) (.tmp 42) rfl _ #[.int .u64 i0, .int .u64 i1, .int .u64 i2, .int .u64 i3] rfl rfl HN.out.get2 Cs.clInfo rfl (by simp [Value.oneCell']) ?_; intro w8 hst8; have HN := Lib.hid hst8; clear hst8) | (refine St.stepRow rfl 24 (.tmp 11) (.tmp 46) rfl _ #[.int .u64 o0, .int .u64 o1, .int .u64 o2, .int .u64 o3] rfl rfl HN.out.get2 Cs.clInfo rfl (by simp [Value.oneCell']) ?_; intro w8 hst8; have HN := Lib.hid hst8; clear hst8))
                      refine hK.out _ _ ?_ (fun hHeld => ?_)
                      · (try dsimp only); (exact ⟨bkeep HN.out.bel x0, bkeep HN.out.bel x1, bkeep HN.out.bel x2, bkeep HN.out.bel x3, bkeep HN.out.bel z0, bkeep HN.out.bel z1, bkeep HN.out.bel z2, bkeep HN.out.bel z3⟩)
                      clear hK K
                      try simp only [List.getElem_toArray, List.getElem_cons_zero, List.getElem_cons_succ, Act.put, List.setIfInBounds_toArray, List.set_cons_zero, List.set_cons_succ]
                      refine wpAnyH_ready (rs := [7]) (by kernel_rfl) (by simp) ?_
                      refine AllReadyH.cons rfl (fun K hK => ?_) (AllReadyH.nil)
                      (first | (go_at_call 16; (first | (with_reducible refine (HC1.out _).mono ?_) | (with_reducible refine (HC3.out _).mono ?_)); rintro e w8 ⟨rfl, hb8⟩; have HN := Lib.hid (HN.out.call hb8); clear hb8) | (go_at_call 18; with_reducible refine (HC2.out _).mono ?_; rintro e w8 ⟨rfl, hb8⟩; have HN := Lib.hid (HN.out.call hb8); clear hb8) | (refine Cp.stepAlloc (T := 24) (cs := #[.int .u64 0, .int .u64 0, .int .u64 0, .int .u64 0]) rfl rfl (by intro u; kernel_rfl) HN.out ?_; intro g8 w8 hst8; have HN := Lib.hid hst8; clear hst8) | (refine St.stepRow rfl 24 (.tmp 10) (.tmp 42) rfl _ #[.int .u64 i0, .int .u64 i1, .int .u64 i2, .int .u64 i3] rfl rfl HN.out Cs.clInfo rfl (by simp [Value.oneCell']) ?_; intro w8 hst8; have HN := Lib.hid hst8; clear hst8) | (refine St.stepRow rfl 24 (.tmp 10) (.tmp 42) rfl _ #[.int .u64 i0, .int .u64 i1, .int .u64 i2, .int .u64 i3] rfl rfl HN.out.get2 Cs.clInfo rfl (by simp [Value.oneCell']) ?_; intro w8 hst8; have HN := Lib.hid hst8; clear hst8) | (refine St.stepRow rfl 24 (.tmp 11) (.tmp 46) rfl _ #[.int .u64 o0, .int .u64 o1, .int .u64 o2, .int .u64 o3] rfl rfl HN.out.get2 Cs.clInfo rfl (by simp [Value.oneCell']) ?_; intro w8 hst8; have HN := Lib.hid hst8; clear hst8))
                      refine hK.out _ _ ?_ (fun hHeld => ?_)
                      · (try dsimp only); (exact ⟨bkeep HN.out.bel x0, bkeep HN.out.bel x1, bkeep HN.out.bel x2, bkeep HN.out.bel x3, bkeep HN.out.bel z0, bkeep HN.out.bel z1, bkeep HN.out.bel z2, bkeep HN.out.bel z3⟩)
                      clear hK K
                      try simp only [List.getElem_toArray, List.getElem_cons_zero, List.getElem_cons_succ, Act.put, List.setIfInBounds_toArray, List.set_cons_zero, List.set_cons_succ]
                      refine wpAnyH_ready (rs := [9]) (by kernel_rfl) (by simp) ?_
                      refine AllReadyH.cons rfl (fun K hK => ?_) AllReadyH.nil
                      (first | (go_at_call 16; (first | (with_reducible refine (HC1.out _).mono ?_) | (with_reducible refine (HC3.out _).mono ?_)); rintro e w8 ⟨rfl, hb8⟩; have HN := Lib.hid (HN.out.call hb8); clear hb8) | (go_at_call 18; with_reducible refine (HC2.out _).mono ?_; rintro e w8 ⟨rfl, hb8⟩; have HN := Lib.hid (HN.out.call hb8); clear hb8) | (refine Cp.stepAlloc (T := 24) (cs := #[.int .u64 0, .int .u64 0, .int .u64 0, .int .u64 0]) rfl rfl (by intro u; kernel_rfl) HN.out ?_; intro g8 w8 hst8; have HN := Lib.hid hst8; clear hst8) | (refine St.stepRow rfl 24 (.tmp 10) (.tmp 42) rfl _ #[.int .u64 i0, .int .u64 i1, .int .u64 i2, .int .u64 i3] rfl rfl HN.out Cs.clInfo rfl (by simp [Value.oneCell']) ?_; intro w8 hst8; have HN := Lib.hid hst8; clear hst8) | (refine St.stepRow rfl 24 (.tmp 10) (.tmp 42) rfl _ #[.int .u64 i0, .int .u64 i1, .int .u64 i2, .int .u64 i3] rfl rfl HN.out.get2 Cs.clInfo rfl (by simp [Value.oneCell']) ?_; intro w8 hst8; have HN := Lib.hid hst8; clear hst8) | (refine St.stepRow rfl 24 (.tmp 11) (.tmp 46) rfl _ #[.int .u64 o0, .int .u64 o1, .int .u64 o2, .int .u64 o3] rfl rfl HN.out.get2 Cs.clInfo rfl (by simp [Value.oneCell']) ?_; intro w8 hst8; have HN := Lib.hid hst8; clear hst8))
                      refine hK.out _ _ ?_ (fun hHeld => ?_)
                      · (try dsimp only); (exact ⟨bkeep HN.out.bel x0, bkeep HN.out.bel x1, bkeep HN.out.bel x2, bkeep HN.out.bel x3, bkeep HN.out.bel z0, bkeep HN.out.bel z1, bkeep HN.out.bel z2, bkeep HN.out.bel z3⟩)
                      clear hK K
                      try simp only [List.getElem_toArray, List.getElem_cons_zero, List.getElem_cons_succ, Act.put, List.setIfInBounds_toArray, List.set_cons_zero, List.set_cons_succ]
                      refine wpAnyH_ready (rs := [10]) (by kernel_rfl) (by simp) ?_
                      refine AllReadyH.cons rfl (fun K hK => ?_) AllReadyH.nil
                      (first | (go_at_call 16; (first | (with_reducible refine (HC1.out _).mono ?_) | (with_reducible refine (HC3.out _).mono ?_)); rintro e w8 ⟨rfl, hb8⟩; have HN := Lib.hid (HN.out.call hb8); clear hb8) | (go_at_call 18; with_reducible refine (HC2.out _).mono ?_; rintro e w8 ⟨rfl, hb8⟩; have HN := Lib.hid (HN.out.call hb8); clear hb8) | (refine Cp.stepAlloc (T := 24) (cs := #[.int .u64 0, .int .u64 0, .int .u64 0, .int .u64 0]) rfl rfl (by intro u; kernel_rfl) HN.out ?_; intro g8 w8 hst8; have HN := Lib.hid hst8; clear hst8) | (refine St.stepRow rfl 24 (.tmp 10) (.tmp 42) rfl _ #[.int .u64 i0, .int .u64 i1, .int .u64 i2, .int .u64 i3] rfl rfl HN.out Cs.clInfo rfl (by simp [Value.oneCell']) ?_; intro w8 hst8; have HN := Lib.hid hst8; clear hst8) | (refine St.stepRow rfl 24 (.tmp 10) (.tmp 42) rfl _ #[.int .u64 i0, .int .u64 i1, .int .u64 i2, .int .u64 i3] rfl rfl HN.out.get2 Cs.clInfo rfl (by simp [Value.oneCell']) ?_; intro w8 hst8; have HN := Lib.hid hst8; clear hst8) | (refine St.stepRow rfl 24 (.tmp 11) (.tmp 46) rfl _ #[.int .u64 o0, .int .u64 o1, .int .u64 o2, .int .u64 o3] rfl rfl HN.out.get2 Cs.clInfo rfl (by simp [Value.oneCell']) ?_; intro w8 hst8; have HN := Lib.hid hst8; clear hst8))
                      refine hK.out _ _ ?_ (fun hHeld => ?_)
                      · (try dsimp only); (exact ⟨bkeep HN.out.bel x0, bkeep HN.out.bel x1, bkeep HN.out.bel x2, bkeep HN.out.bel x3, bkeep HN.out.bel z0, bkeep HN.out.bel z1, bkeep HN.out.bel z2, bkeep HN.out.bel z3⟩)
                      clear hK K
                      try simp only [List.getElem_toArray, List.getElem_cons_zero, List.getElem_cons_succ, Act.put, List.setIfInBounds_toArray, List.set_cons_zero, List.set_cons_succ]
                      refine wpAnyH_done (by kernel_rfl) ?_ _
                      exact REST _ _ _ (HST.out.join HN.out)
                    · skip
                      (first | (go_at_call 16; (first | (with_reducible refine (HC1.out _).mono ?_) | (with_reducible refine (HC3.out _).mono ?_)); rintro e w8 ⟨rfl, hb8⟩; have HN := Lib.hid (HN.out.call hb8); clear hb8) | (go_at_call 18; with_reducible refine (HC2.out _).mono ?_; rintro e w8 ⟨rfl, hb8⟩; have HN := Lib.hid (HN.out.call hb8); clear hb8) | (refine Cp.stepAlloc (T := 24) (cs := #[.int .u64 0, .int .u64 0, .int .u64 0, .int .u64 0]) rfl rfl (by intro u; kernel_rfl) HN.out ?_; intro g8 w8 hst8; have HN := Lib.hid hst8; clear hst8) | (refine St.stepRow rfl 24 (.tmp 10) (.tmp 42) rfl _ #[.int .u64 i0, .int .u64 i1, .int .u64 i2, .int .u64 i3] rfl rfl HN.out Cs.clInfo rfl (by simp [Value.oneCell']) ?_; intro w8 hst8; have HN := Lib.hid hst8; clear hst8) | (refine St.stepRow rfl 24 (.tmp 10) (.tmp 42) rfl _ #[.int .u64 i0, .int .u64 i1, .int .u64 i2, .int .u64 i3] rfl rfl HN.out.get2 Cs.clInfo rfl (by simp [Value.oneCell']) ?_; intro w8 hst8; have HN := Lib.hid hst8; clear hst8) | (refine St.stepRow rfl 24 (.tmp 11) (.tmp 46) rfl _ #[.int .u64 o0, .int .u64 o1, .int .u64 o2, .int .u64 o3] rfl rfl HN.out.get2 Cs.clInfo rfl (by simp [Value.oneCell']) ?_; intro w8 hst8; have HN := Lib.hid hst8; clear hst8))
                      refine hK.out _ _ ?_ (fun hHeld => ?_)
                      · (try dsimp only); (exact ⟨bkeep HN.out.bel x0, bkeep HN.out.bel x1, bkeep HN.out.bel x2, bkeep HN.out.bel x3, bkeep HN.out.bel z0, bkeep HN.out.bel z1, bkeep HN.out.bel z2, bkeep HN.out.bel z3⟩)
                      clear hK K
                      try simp only [List.getElem_toArray, List.getElem_cons_zero, List.getElem_cons_succ, Act.put, List.setIfInBounds_toArray, List.set_cons_zero, List.set_cons_succ]
                      refine wpAnyH_ready (rs := [6]) (by kernel_rfl) (by simp) ?_
                      refine AllReadyH.cons rfl (fun K hK => ?_) (AllReadyH.nil)
                      go_simp
                      (first | (go_at_call 16; (first | (with_reducible refine (HC1.out _).mono ?_) | (with_reducible refine (HC3.out _).mono ?_)); rintro e w8 ⟨rfl, hb8⟩; have HN := Lib.hid (HN.out.call hb8); clear hb8) | (go_at_call 18; with_reducible refine (HC2.out _).mono ?_; rintro e w8 ⟨rfl, hb8⟩; have HN := Lib.hid (HN.out.call hb8); clear hb8) | (refine Cp.stepAlloc (T := 24) (cs := #[.int .u64 0, .int .u64 0, .int .u64 0, .int .u64 0]) rfl rfl (by intro u; kernel_rfl) HN.out ?_; intro g8 w8 hst8; have HN := Lib.hid hst8; clear hst8) | (refine St.stepRow rfl 24 (.tmp 10) (.tmp 42) rfl _ #[.int .u64 i0, .int .u64 i1, .int .u64 i2, .int .u64 i3] rfl rfl HN.out Cs.clInfo rfl (by simp [Value.oneCell']) ?_; intro w8 hst8; have HN := Lib.hid hst8; clear hst8) | (refine St.stepRow rfl 24 (.tmp 10) (.tmp 42) rfl _ #[.int .u64 i0, .int .u64 i1, .int .u64 i2, .int .u64 i3] rfl rfl HN.out.get2 Cs.clInfo rfl (by simp [Value.oneCell']) ?_; intro w8 hst8; have HN := Lib.hid hst8; clear hst8) | (refine St.stepRow rfl 24 (.tmp 11) (.tmp 46) rfl _ #[.int .u64 o0, .int .u64 o1, .int .u64 o2, .int .u64 o3] rfl rfl HN.out.get2 Cs.clInfo rfl (by simp [Value.oneCell']) ?_; intro w8 hst8; have HN := Lib.hid hst8; clear hst8))
                      refine hK.out _ _ ?_ (fun hHeld => ?_)
                      · (try dsimp only); (exact ⟨bkeep HN.out.bel x0, bkeep HN.out.bel x1, bkeep HN.out.bel x2, bkeep HN.out.bel x3, bkeep HN.out.bel z0, bkeep HN.out.bel z1, bkeep HN.out.bel z2, bkeep HN.out.bel z3⟩)
                      clear hK K
                      try simp only [List.getElem_toArray, List.getElem_cons_zero, List.getElem_cons_succ, Act.put, List.setIfInBounds_toArray, List.set_cons_zero, List.set_cons_succ]
                      refine wpAnyH_ready (rs := [9]) (by kernel_rfl) (by simp) ?_
                      refine AllReadyH.cons rfl (fun K hK => ?_) AllReadyH.nil
                      (first | (go_at_call 16; (first | (with_reducible refine (HC1.out _).mono ?_) | (with_reducible refine (HC3.out _).mono ?_)); rintro e w8 ⟨rfl, hb8⟩; have HN := Lib.hid (HN.out.call hb8); clear hb8) | (go_at_call 18; with_reducible refine (HC2.out _).mono ?_; rintro e w8 ⟨rfl, hb8⟩; have HN := Lib.hid (HN.out.call hb8); clear hb8) | (refine Cp.stepAlloc (T := 24) (cs := #[.int .u64 0, .int .u64 0, .int .u64 0, .int .u64 0]) rfl rfl (by intro u; kernel_rfl) HN.out ?_; intro g8 w8 hst8; have HN := Lib.hid hst8; clear hst8) | (refine St.stepRow rfl 24 (.tmp 10) (.tmp 42) rfl _ #[.int .u64 i0, .int .u64 i1, .int .u64 i2, .int .u64 i3] rfl rfl HN.out Cs.clInfo rfl (by simp [Value.oneCell']) ?_; intro w8 hst8; have HN := Lib.hid hst8; clear hst8) | (refine St.stepRow rfl 24 (.tmp 10) (.tmp 42) rfl _ #[.int .u64 i0, .int .u64 i1, .int .u64 i2, .int .u64 i3] rfl rfl HN.out.get2 Cs.clInfo rfl (by simp [Value.oneCell']) ?_; intro w8 hst8; have HN := Lib.hid hst8; clear hst8) | (refine St.stepRow rfl 24 (.tmp 11) (.tmp 46) rfl _ #[.int .u64 o0, .int .u64 o1, .int .u64 o2, .int .u64 o3] rfl rfl HN.out.get2 Cs.clInfo rfl (by simp [Value.oneCell']) ?_; intro w8 hst8; have HN := Lib.hid hst8; clear hst8))
                      refine hK.out _ _ ?_ (fun hHeld => ?_)
                      · (try dsimp only); (exact ⟨bkeep HN.out.bel x0, bkeep HN.out.bel x1, bkeep HN.out.bel x2, bkeep HN.out.bel x3, bkeep HN.out.bel z0, bkeep HN.out.bel z1, bkeep HN.out.bel z2, bkeep HN.out.bel z3⟩)
                      clear hK K
                      try simp only [List.getElem_toArray, List.getElem_cons_zero, List.getElem_cons_succ, Act.put, List.setIfInBounds_toArray, List.set_cons_zero, List.set_cons_succ]
                      refine wpAnyH_ready (rs := [10]) (by kernel_rfl) (by simp) ?_
                      refine AllReadyH.cons rfl (fun K hK => ?_) AllReadyH.nil
                      (first | (go_at_call 16; (first | (with_reducible refine (HC1.out _).mono ?_) | (with_reducible refine (HC3.out _).mono ?_)); rintro e w8 ⟨rfl, hb8⟩; have HN := Lib.hid (HN.out.call hb8); clear hb8) | (go_at_call 18; with_reducible refine (HC2.out _).mono ?_; rintro e w8 ⟨rfl, hb8⟩; have HN := Lib.hid (HN.out.call hb8); clear hb8) | (refine Cp.stepAlloc (T := 24) (cs := #[.int .u64 0, .int .u64 0, .int .u64 0, .int .u64 0]) rfl rfl (by intro u; kernel_rfl) HN.out ?_; intro g8 w8 hst8; have HN := Lib.hid hst8; clear hst8) | (refine St.stepRow rfl 24 (.tmp 10) (.tmp 42) rfl _ #[.int .u64 i0, .int .u64 i1, .int .u64 i2, .int .u64 i3] rfl rfl HN.out Cs.clInfo rfl (by simp [Value.oneCell']) ?_; intro w8 hst8; have HN := Lib.hid hst8; clear hst8) | (refine St.stepRow rfl 24 (.tmp 10) (.tmp 42) rfl _ #[.int .u64 i0, .int .u64 i1, .int .u64 i2, .int .u64 i3] rfl rfl HN.out.get2 Cs.clInfo rfl (by simp [Value.oneCell']) ?_; intro w8 hst8; have HN := Lib.hid hst8; clear hst8) | (refine St.stepRow rfl 24 (.tmp 11) (.tmp 46) rfl _ #[.int .u64 o0, .int .u64 o1, .int .u64 o2, .int .u64 o3] rfl rfl HN.out.get2 Cs.clInfo rfl (by simp [Value.oneCell']) ?_; intro w8 hst8; have HN := Lib.hid hst8; clear hst8))
                      refine hK.out _ _ ?_ (fun hHeld => ?_)
                      · (try dsimp only); (exact ⟨bkeep HN.out.bel x0, bkeep HN.out.bel x1, bkeep HN.out.bel x2, bkeep HN.out.bel x3, bkeep HN.out.bel z0, bkeep HN.out.bel z1, bkeep HN.out.bel z2, bkeep HN.out.bel z3⟩)
                      clear hK K
                      try simp only [List.getElem_toArray, List.getElem_cons_zero, List.getElem_cons_succ, Act.put, List.setIfInBounds_toArray, List.set_cons_zero, List.set_cons_succ]
                      refine wpAnyH_done (by kernel_rfl) ?_ _
                      exact REST _ _ _ (HST.out.join HN.out)
                  · skip
                    (first | (go_at_call 16; (first | (with_reducible refine (HC1.out _).mono ?_) | (with_reducible refine (HC3.out _).mono ?_)); rintro e w8 ⟨rfl, hb8⟩; have HN := Lib.hid (HN.out.call hb8); clear hb8) | (go_at_call 18; with_reducible refine (HC2.out _).mono ?_; rintro e w8 ⟨rfl, hb8⟩; have HN := Lib.hid (HN.out.call hb8); clear hb8) | (refine Cp.stepAlloc (T := 24) (cs := #[.int .u64 0, .int .u64 0, .int .u64 0, .int .u64 0]) rfl rfl (by intro u; kernel_rfl) HN.out ?_; intro g8 w8 hst8; have HN := Lib.hid hst8; clear hst8) | (refine St.stepRow rfl 24 (.tmp 10) (.tmp 42) rfl _ #[.int .u64 i0, .int .u64 i1, .int .u64 i2, .int .u64 i3] rfl rfl HN.out Cs.clInfo rfl (by simp [Value.oneCell']) ?_; intro w8 hst8; have HN := Lib.hid hst8; clear hst8) | (refine St.stepRow rfl 24 (.tmp 10) (.tmp 42) rfl _ #[.int .u64 i0, .int .u64 i1, .int .u64 i2, .int .u64 i3] rfl rfl HN.out.get2 Cs.clInfo rfl (by simp [Value.oneCell']) ?_; intro w8 hst8; have HN := Lib.hid hst8; clear hst8) | (refine St.stepRow rfl 24 (.tmp 11) (.tmp 46) rfl _ #[.int .u64 o0, .int .u64 o1, .int .u64 o2, .int .u64 o3] rfl rfl HN.out.get2 Cs.clInfo rfl (by simp [Value.oneCell']) ?_; intro w8 hst8; have HN := Lib.hid hst8; clear hst8))
                    refine hK.out _ _ ?_ (fun hHeld => ?_)
                    · (try dsimp only); (exact ⟨bkeep HN.out.bel x0, bkeep HN.out.bel x1, bkeep HN.out.bel x2, bkeep HN.out.bel x3, bkeep HN.out.bel z0, bkeep HN.out.bel z1, bkeep HN.out.bel z2, bkeep HN.out.bel z3⟩)
                    clear hK K
                    try simp only [List.getElem_toArray, List.getElem_cons_zero, List.getElem_cons_succ, Act.put, List.setIfInBounds_toArray, List.set_cons_zero, List.set_cons_succ]
                    refine wpAnyH_ready (rs := [5]) (by kernel_rfl) (by simp) ?_
                    refine AllReadyH.cons rfl (fun K hK => ?_) (AllReadyH.nil)
                    go_simp
                    (first | (go_at_call 16; (first | (with_reducible refine (HC1.out _).mono ?_) | (with_reducible refine (HC3.out _).mono ?_)); rintro e w8 ⟨rfl, hb8⟩; have HN := Lib.hid (HN.out.call hb8); clear hb8) | (go_at_call 18; with_reducible refine (HC2.out _).mono ?_; rintro e w8 ⟨rfl, hb8⟩; have HN := Lib.hid (HN.out.call hb8); clear hb8) | (refine Cp.stepAlloc (T := 24) (cs := #[.int .u64 0, .int .u64 0, .int .u64 0, .int .u64 0]) rfl rfl (by intro u; kernel_rfl) HN.out ?_; intro g8 w8 hst8; have HN := Lib.hid hst8; clear hst8) | (refine St.stepRow rfl 24 (.tmp 10) (.tmp 42) rfl _ #[.int .u64 i0, .int .u64 i1, .int .u64 i2, .int .u64 i3] rfl rfl HN.out Cs.clInfo rfl (by simp [Value.oneCell']) ?_; intro w8 hst8; have HN := Lib.hid hst8; clear hst8) | (refine St.stepRow rfl 24 (.tmp 10) (.tmp 42) rfl _ #[.int .u64 i0, .int .u64 i1, .int .u64 i2, .int .u64 i3] rfl rfl HN.out.get2 Cs.clInfo rfl (by simp [Value.oneCell']) ?_; intro w8 hst8; have HN := Lib.hid hst8; clear hst8) | (refine St.stepRow rfl 24 (.tmp 11) (.tmp 46) rfl _ #[.int .u64 o0, .int .u64 o1, .int .u64 o2, .int .u64 o3] rfl rfl HN.out.get2 Cs.clInfo rfl (by simp [Value.oneCell']) ?_; intro w8 hst8; have HN := Lib.hid hst8; clear hst8))
                    refine hK.out _ _ ?_ (fun hHeld => ?_)
                    · (try dsimp only); (exact ⟨bkeep HN.out.bel x0, bkeep HN.out.bel x1, bkeep HN.out.bel x2, bkeep HN.out.bel x3, bkeep HN.out.bel z0, bkeep HN.out.bel z1, bkeep HN.out.bel z2, bkeep HN.out.bel z3⟩)
                    clear hK K
                    try simp only [List.getElem_toArray, List.getElem_cons_zero, List.getElem_cons_succ, Act.put, List.setIfInBounds_toArray, List.set_cons_zero, List.set_cons_succ]
                    refine wpAnyH_ready (rs := [6]) (by kernel_rfl) (by simp) ?_
                    refine AllReadyH.cons rfl (fun K hK => ?_) (AllReadyH.nil)
                    go_simp
                    (first | (go_at_call 16; (first | (with_reducible refine (HC1.out _).mono ?_) | (with_reducible refine (HC3.out _).mono ?_)); rintro e w8 ⟨rfl, hb8⟩; have HN := Lib.hid (HN.out.call hb8); clear hb8) | (go_at_call 18; with_reducible refine (HC2.out _).mono ?_; rintro e w8 ⟨rfl, hb8⟩; have HN := Lib.hid (HN.out.call hb8); clear hb8) | (refine Cp.stepAlloc (T := 24) (cs := #[.int .u64 0, .int .u64 0, .int .u64 0, .int .u64 0]) rfl rfl (by intro u; kernel_rfl) HN.out ?_; intro g8 w8 hst8; have HN := Lib.hid hst8; clear hst8) | (refine St.stepRow rfl 24 (.tmp 10) (.tmp 42) rfl _ #[.int .u64 i0, .int .u64 i1, .int .u64 i2, .int .u64 i3] rfl rfl HN.out Cs.clInfo rfl (by simp [Value.oneCell']) ?_; intro w8 hst8; have HN := Lib.hid hst8; clear hst8) | (refine St.stepRow rfl 24 (.tmp 10) (.tmp 42) rfl _ #[.int .u64 i0, .int .u64 i1, .int .u64 i2, .int .u64 i3] rfl rfl HN.out.get2 Cs.clInfo rfl (by simp [Value.oneCell']) ?_; intro w8 hst8; have HN := Lib.hid hst8; clear hst8) | (refine St.stepRow rfl 24 (.tmp 11) (.tmp 46) rfl _ #[.int .u64 o0, .int .u64 o1, .int .u64 o2, .int .u64 o3] rfl rfl HN.out.get2 Cs.clInfo rfl (by simp [Value.oneCell']) ?_; intro w8 hst8; have HN := Lib.hid hst8; clear hst8))
                    refine hK.out _ _ ?_ (fun hHeld => ?_)
                    · (try dsimp only); (exact ⟨bkeep HN.out.bel x0, bkeep HN.out.bel x1, bkeep HN.out.bel x2, bkeep HN.out.bel x3, bkeep HN.out.bel z0, bkeep HN.out.bel z1, bkeep HN.out.bel z2, bkeep HN.out.bel z3⟩)
                    clear hK K
                    try simp only [List.getElem_toArray, List.getElem_cons_zero, List.getElem_cons_succ, Act.put, List.setIfInBounds_toArray, List.set_cons_zero, List.set_cons_succ]
                    refine wpAnyH_ready (rs := [9]) (by kernel_rfl) (by simp) ?_
                    refine AllReadyH.cons rfl (fun K hK => ?_) AllReadyH.nil
                    (first | (go_at_call 16; (first | (with_reducible refine (HC1.out _).mono ?_) | (with_reducible refine (HC3.out _).mono ?_)); rintro e w8 ⟨rfl, hb8⟩; have HN := Lib.hid (HN.out.call hb8); clear hb8) | (go_at_call 18; with_reducible refine (HC2.out _).mono ?_; rintro e w8 ⟨rfl, hb8⟩; have HN := Lib.hid (HN.out.call hb8); clear hb8) | (refine Cp.stepAlloc (T := 24) (cs := #[.int .u64 0, .int .u64 0, .int .u64 0, .int .u64 0]) rfl rfl (by intro u; kernel_rfl) HN.out ?_; intro g8 w8 hst8; have HN := Lib.hid hst8; clear hst8) | (refine St.stepRow rfl 24 (.tmp 10) (.tmp 42) rfl _ #[.int .u64 i0, .int .u64 i1, .int .u64 i2, .int .u64 i3] rfl rfl HN.out Cs.clInfo rfl (by simp [Value.oneCell']) ?_; intro w8 hst8; have HN := Lib.hid hst8; clear hst8) | (refine St.stepRow rfl 24 (.tmp 10) (.tmp 42) rfl _ #[.int .u64 i0, .int .u64 i1, .int .u64 i2, .int .u64 i3] rfl rfl HN.out.get2 Cs.clInfo rfl (by simp [Value.oneCell']) ?_; intro w8 hst8; have HN := Lib.hid hst8; clear hst8) | (refine St.stepRow rfl 24 (.tmp 11) (.tmp 46) rfl _ #[.int .u64 o0, .int .u64 o1, .int .u64 o2, .int .u64 o3] rfl rfl HN.out.get2 Cs.clInfo rfl (by simp [Value.oneCell']) ?_; intro w8 hst8; have HN := Lib.hid hst8; clear hst8))
                    refine hK.out _ _ ?_ (fun hHeld => ?_)
                    · (try dsimp only); (exact ⟨bkeep HN.out.bel x0, bkeep HN.out.bel x1, bkeep HN.out.bel x2, bkeep HN.out.bel x3, bkeep HN.out.bel z0, bkeep HN.out.bel z1, bkeep HN.out.bel z2, bkeep HN.out.bel z3⟩)
                    clear hK K
                    try simp only [List.getElem_toArray, List.getElem_cons_zero, List.getElem_cons_succ, Act.put, List.setIfInBounds_toArray, List.set_cons_zero, List.set_cons_succ]
                    refine wpAnyH_ready (rs := [10]) (by kernel_rfl) (by simp) ?_
                    refine AllReadyH.cons rfl (fun K hK => ?_) AllReadyH.nil
                    (first | (go_at_call 16; (first | (with_reducible refine (HC1.out _).mono ?_) | (with_reducible refine (HC3.out _).mono ?_)); rintro e w8 ⟨rfl, hb8⟩; have HN := Lib.hid (HN.out.call hb8); clear hb8) | (go_at_call 18; with_reducible refine (HC2.out _).mono ?_; rintro e w8 ⟨rfl, hb8⟩; have HN := Lib.hid (HN.out.call hb8); clear hb8) | (refine Cp.stepAlloc (T := 24) (cs := #[.int .u64 0, .int .u64 0, .int .u64 0, .int .u64 0]) rfl rfl (by intro u; kernel_rfl) HN.out ?_; intro g8 w8 hst8; have HN := Lib.hid hst8; clear hst8) | (refine St.stepRow rfl 24 (.tmp 10) (.tmp 42) rfl _ #[.int .u64 i0, .int .u64 i1, .int .u64 i2, .int .u64 i3] rfl rfl HN.out Cs.clInfo rfl (by simp [Value.oneCell']) ?_; intro w8 hst8; have HN := Lib.hid hst8; clear hst8) | (refine St.stepRow rfl 24 (.tmp 10) (.tmp 42) rfl _ #[.int .u64 i0, .int .u64 i1, .int .u64 i2, .int .u64 i3] rfl rfl HN.out.get2 Cs.clInfo rfl (by simp [Value.oneCell']) ?_; intro w8 hst8; have HN := Lib.hid hst8; clear hst8) | (refine St.stepRow rfl 24 (.tmp 11) (.tmp 46) rfl _ #[.int .u64 o0, .int .u64 o1, .int .u64 o2, .int .u64 o3] rfl rfl HN.out.get2 Cs.clInfo rfl (by simp [Value.oneCell']) ?_; intro w8 hst8; have HN := Lib.hid hst8; clear hst8))
                    refine hK.out _ _ ?_ (fun hHeld => ?_)
                    · (try dsimp only); (exact ⟨bkeep HN.out.bel x0, bkeep HN.out.bel x1, bkeep HN.out.bel x2, bkeep HN.out.bel x3, bkeep HN.out.bel z0, bkeep HN.out.bel z1, bkeep HN.out.bel z2, bkeep HN.out.bel z3⟩)
                    clear hK K
                    try simp only [List.getElem_toArray, List.getElem_cons_zero, List.getElem_cons_succ, Act.put, List.setIfInBounds_toArray, List.set_cons_zero, List.set_cons_succ]
                    refine wpAnyH_done (by kernel_rfl) ?_ _
                    exact REST _ _ _ (HST.out.join HN.out)
                · skip
                  (first | (go_at_call 16; (first | (with_reducible refine (HC1.out _).mono ?_) | (with_reducible refine (HC3.out _).mono ?_)); rintro e w8 ⟨rfl, hb8⟩; have HN := Lib.hid (HN.out.call hb8); clear hb8) | (go_at_call 18; with_reducible refine (HC2.out _).mono ?_; rintro e w8 ⟨rfl, hb8⟩; have HN := Lib.hid (HN.out.call hb8); clear hb8) | (refine Cp.stepAlloc (T := 24) (cs := #[.int .u64 0, .int .u64 0, .int .u64 0, .int .u64 0]) rfl rfl (by intro u; kernel_rfl) HN.out ?_; intro g8 w8 hst8; have HN := Lib.hid hst8; clear hst8) | (refine St.stepRow rfl 24 (.tmp 10) (.tmp 42) rfl _ #[.int .u64 i0, .int .u64 i1, .int .u64 i2, .int .u64 i3] rfl rfl HN.out Cs.clInfo rfl (by simp [Value.oneCell']) ?_; intro w8 hst8; have HN := Lib.hid hst8; clear hst8) | (refine St.stepRow rfl 24 (.tmp 10) (.tmp 42) rfl _ #[.int .u64 i0, .int .u64 i1, .int .u64 i2, .int .u64 i3] rfl rfl HN.out.get2 Cs.clInfo rfl (by simp [Value.oneCell']) ?_; intro w8 hst8; have HN := Lib.hid hst8; clear hst8) | (refine St.stepRow rfl 24 (.tmp 11) (.tmp 46) rfl _ #[.int .u64 o0, .int .u64 o1, .int .u64 o2, .int .u64 o3] rfl rfl HN.out.get2 Cs.clInfo rfl (by simp [Value.oneCell']) ?_; intro w8 hst8; have HN := Lib.hid hst8; clear hst8))
                  refine hK.out _ _ ?_ (fun hHeld => ?_)
                  · (try dsimp only); (exact ⟨bkeep HN.out.bel x0, bkeep HN.out.bel x1, bkeep HN.out.bel x2, bkeep HN.out.bel x3, bkeep HN.out.bel z0, bkeep HN.out.bel z1, bkeep HN.out.bel z2, bkeep HN.out.bel z3⟩)
                  clear hK K
                  try simp only [List.getElem_toArray, List.getElem_cons_zero, List.getElem_cons_succ, Act.put, List.setIfInBounds_toArray, List.set_cons_zero, List.set_cons_succ]
                  refine wpAnyH_ready (rs := [2]) (by kernel_rfl) (by simp) ?_
                  refine AllReadyH.cons rfl (fun K hK => ?_) (AllReadyH.nil)
                  go_simp
                  (first | (go_at_call 16; (first | (with_reducible refine (HC1.out _).mono ?_) | (with_reducible refine (HC3.out _).mono ?_)); rintro e w8 ⟨rfl, hb8⟩; have HN := Lib.hid (HN.out.call hb8); clear hb8) | (go_at_call 18; with_reducible refine (HC2.out _).mono ?_; rintro e w8 ⟨rfl, hb8⟩; have HN := Lib.hid (HN.out.call hb8); clear hb8) | (refine Cp.stepAlloc (T := 24) (cs := #[.int .u64 0, .int .u64 0, .int .u64 0, .int .u64 0]) rfl rfl (by intro u; kernel_rfl) HN.out ?_; intro g8 w8 hst8; have HN := Lib.hid hst8; clear hst8) | (refine St.stepRow rfl 24 (.tmp 10) (.tmp 42) rfl _ #[.int .u64 i0, .int .u64 i1, .int .u64 i2, .int .u64 i3] rfl rfl HN.out Cs.clInfo rfl (by simp [Value.oneCell']) ?_; intro w8 hst8; have HN := Lib.hid hst8; clear hst8) | (refine St.stepRow rfl 24 (.tmp 10) (.tmp 42) rfl _ #[.int .u64 i0, .int .u64 i1, .int .u64 i2, .int .u64 i3] rfl rfl HN.out.get2 Cs.clInfo rfl (by simp [Value.oneCell']) ?_; intro w8 hst8; have HN := Lib.hid hst8; clear hst8) | (refine St.stepRow rfl 24 (.tmp 11) (.tmp 46) rfl _ #[.int .u64 o0, .int .u64 o1, .int .u64 o2, .int .u64 o3] rfl rfl HN.out.get2 Cs.clInfo rfl (by simp [Value.oneCell']) ?_; intro w8 hst8; have HN := Lib.hid hst8; clear hst8))
                  refine hK.out _ _ ?_ (fun hHeld => ?_)
                  · (try dsimp only); (exact ⟨bkeep HN.out.bel x0, bkeep HN.out.bel x1, bkeep HN.out.bel x2, bkeep HN.out.bel x3, bkeep HN.out.bel z0, bkeep HN.out.bel z1, bkeep HN.out.bel z2, bkeep HN.out.bel z3⟩)
                  clear hK K
                  try simp only [List.getElem_toArray, List.getElem_cons_zero, List.getElem_cons_succ, Act.put, List.setIfInBounds_toArray, List.set_cons_zero, List.set_cons_succ]
                  refine wpAnyH_ready (rs := [5]) (by kernel_rfl) (by simp) ?_
                  refine AllReadyH.cons rfl (fun K hK => ?_) (AllReadyH.nil)
                  go_simp
                  (first | (go_at_call 16; (first | (with_reducible refine (HC1.out _).mono ?_) | (with_reducible refine (HC3.out _).mono ?_)); rintro e w8 ⟨rfl, hb8⟩; have HN := Lib.hid (HN.out.call hb8); clear hb8) | (go_at_call 18; with_reducible refine (HC2.out _).mono ?_; rintro e w8 ⟨rfl, hb8⟩; have HN := Lib.hid (HN.out.call hb8); clear hb8) | (refine Cp.stepAlloc (T := 24) (cs := #[.int .u64 0, .int .u64 0, .int .u64 0, .int .u64 0]) rfl rfl (by intro u; kernel_rfl) HN.out ?_; intro g8 w8 hst8; have HN := Lib.hid hst8; clear hst8) | (refine St.stepRow rfl 24 (.tmp 10) (.tmp 42) rfl _ #[.int .u64 i0, .int .u64 i1, .int .u64 i2, .int .u64 i3] rfl rfl HN.out Cs.clInfo rfl (by simp [Value.oneCell']) ?_; intro w8 hst8; have HN := Lib.hid hst8; clear hst8) | (refine St.stepRow rfl 24 (.tmp 10) (.tmp 42) rfl _ #[.int .u64 i0, .int .u64 i1, .int .u64 i2, .int .u64 i3] rfl rfl HN.out.get2 Cs.clInfo rfl (by simp [Value.oneCell']) ?_; intro w8 hst8; have HN := Lib.hid hst8; clear hst8) | (refine St.stepRow rfl 24 (.tmp 11) (.tmp 46) rfl _ #[.int .u64 o0, .int .u64 o1, .int .u64 o2, .int .u64 o3] rfl rfl HN.out.get2 Cs.clInfo rfl (by simp [Value.oneCell']) ?_; intro w8 hst8; have HN := Lib.hid hst8; clear hst8))
                  refine hK.out _ _ ?_ (fun hHeld => ?_)
                  · (try dsimp only); (exact ⟨bkeep HN.out.bel x0, bkeep HN.out.bel x1, bkeep HN.out.bel x2, bkeep HN.out.bel x3, bkeep HN.out.bel z0, bkeep HN.out.bel z1, bkeep HN.out.bel z2, bkeep HN.out.bel z3⟩)
                  clear hK K
                  try simp only [List.getElem_toArray, List.getElem_cons_zero, List.getElem_cons_succ, Act.put, List.setIfInBounds_toArray, List.set_cons_zero, List.set_cons_succ]
                  refine wpAnyH_ready (rs := [6]) (by kernel_rfl) (by simp) ?_
                  refine AllReadyH.cons rfl (fun K hK => ?_) (AllReadyH.nil)
                  go_simp
                  (first | (go_at_call 16; (first | (with_reducible refine (HC1.out _).mono ?_) | (with_reducible refine (HC3.out _).mono ?_)); rintro e w8 ⟨rfl, hb8⟩; have HN := Lib.hid (HN.out.call hb8); clear hb8) | (go_at_call 18; with_reducible refine (HC2.out _).mono ?_; rintro e w8 ⟨rfl, hb8⟩; have HN := Lib.hid (HN.out.call hb8); clear hb8) | (refine Cp.stepAlloc (T := 24) (cs := #[.int .u64 0, .int .u64 0, .int .u64 0, .int .u64 0]) rfl rfl (by intro u; kernel_rfl) HN.out ?_; intro g8 w8 hst8; have HN := Lib.hid hst8; clear hst8) | (refine St.stepRow rfl 24 (.tmp 10) (.tmp 42) rfl _ #[.int .u64 i0, .int .u64 i1, .int .u64 i2, .int .u64 i3] rfl rfl HN.out Cs.clInfo rfl (by simp [Value.oneCell']) ?_; intro w8 hst8; have HN := Lib.hid hst8; clear hst8) | (refine St.stepRow rfl 24 (.tmp 10) (.tmp 42) rfl _ #[.int .u64 i0, .int .u64 i1, .int .u64 i2, .int .u64 i3] rfl rfl HN.out.get2 Cs.clInfo rfl (by simp [Value.oneCell']) ?_; intro w8 hst8; have HN := Lib.hid hst8; clear hst8) | (refine St.stepRow rfl 24 (.tmp 11) (.tmp 46) rfl _ #[.int .u64 o0, .int .u64 o1, .int .u64 o2, .int .u64 o3] rfl rfl HN.out.get2 Cs.clInfo rfl (by simp [Value.oneCell']) ?_; intro w8 hst8; have HN := Lib.hid hst8; clear hst8))
                  refine hK.out _ _ ?_ (fun hHeld => ?_)
                  · (try dsimp only); (exact ⟨bkeep HN.out.bel x0, bkeep HN.out.bel x1, bkeep HN.out.bel x2, bkeep HN.out.bel x3, bkeep HN.out.bel z0, bkeep HN.out.bel z1, bkeep HN.out.bel z2, bkeep HN.out.bel z3⟩)
                  clear hK K
                  try simp only [List.getElem_toArray, List.getElem_cons_zero, List.getElem_cons_succ, Act.put, List.setIfInBounds_toArray, List.set_cons_zero, List.set_cons_succ]
                  refine wpAnyH_ready (rs := [9]) (by kernel_rfl) (by simp) ?_
                  refine AllReadyH.cons rfl (fun K hK => ?_) AllReadyH.nil
                  (first | (go_at_call 16; (first | (with_reducible refine (HC1.out _).mono ?_) | (with_reducible refine (HC3.out _).mono ?_)); rintro e w8 ⟨rfl, hb8⟩; have HN := Lib.hid (HN.out.call hb8); clear hb8) | (go_at_call 18; with_reducible refine (HC2.out _).mono ?_; rintro e w8 ⟨rfl, hb8⟩; have HN := Lib.hid (HN.out.call hb8); clear hb8) | (refine Cp.stepAlloc (T := 24) (cs := #[.int .u64 0, .int .u64 0, .int .u64 0, .int .u64 0]) rfl rfl (by intro u; kernel_rfl) HN.out ?_; intro g8 w8 hst8; have HN := Lib.hid hst8; clear hst8) | (refine St.stepRow rfl 24 (.tmp 10) (.tmp 42) rfl _ #[.int .u64 i0, .int .u64 i1, .int .u64 i2, .int .u64 i3] rfl rfl HN.out Cs.clInfo rfl (by simp [Value.oneCell']) ?_; intro w8 hst8; have HN := Lib.hid hst8; clear hst8) | (refine St.stepRow rfl 24 (.tmp 10) (.tmp 42) rfl _ #[.int .u64 i0, .int .u64 i1, .int .u64 i2, .int .u64 i3] rfl rfl HN.out.get2 Cs.clInfo rfl (by simp [Value.oneCell']) ?_; intro w8 hst8; have HN := Lib.hid hst8; clear hst8) | (refine St.stepRow rfl 24 (.tmp 11) (.tmp 46) rfl _ #[.int .u64 o0, .int .u64 o1, .int .u64 o2, .int .u64 o3] rfl rfl HN.out.get2 Cs.clInfo rfl (by simp [Value.oneCell']) ?_; intro w8 hst8; have HN := Lib.hid hst8; clear hst8))
                  refine hK.out _ _ ?_ (fun hHeld => ?_)
                  · (try dsimp only); (exact ⟨bkeep HN.out.bel x0, bkeep HN.out.bel x1, bkeep HN.out.bel x2, bkeep HN.out.bel x3, bkeep HN.out.bel z0, bkeep HN.out.bel z1, bkeep HN.out.bel z2, bkeep HN.out.bel z3⟩)
                  clear hK K
                  try simp only [List.getElem_toArray, List.getElem_cons_zero, List.getElem_cons_succ, Act.put, List.setIfInBounds_toArray, List.set_cons_zero, List.set_cons_succ]
                  refine wpAnyH_ready (rs := [10]) (by kernel_rfl) (by simp) ?_
                  refine AllReadyH.cons rfl (fun K hK => ?_) AllReadyH.nil
                  (first | (go_at_call 16; (first | (with_reducible refine (HC1.out _).mono ?_) | (with_reducible refine (HC3.out _).mono ?_)); rintro e w8 ⟨rfl, hb8⟩; have HN := Lib.hid (HN.out.call hb8); clear hb8) | (go_at_call 18; with_reducible refine (HC2.out _).mono ?_; rintro e w8 ⟨rfl, hb8⟩; have HN := Lib.hid (HN.out.call hb8); clear hb8) | (refine Cp.stepAlloc (T := 24) (cs := #[.int .u64 0, .int .u64 0, .int .u64 0, .int .u64 0]) rfl rfl (by intro u; kernel_rfl) HN.out ?_; intro g8 w8 hst8; have HN := Lib.hid hst8; clear hst8) | (refine St.stepRow rfl 24 (.tmp 10) (.tmp 42) rfl _ #[.int .u64 i0, .int .u64 i1, .int .u64 i2, .int .u64 i3] rfl rfl HN.out Cs.clInfo rfl (by simp [Value.oneCell']) ?_; intro w8 hst8; have HN := Lib.hid hst8; clear hst8) | (refine St.stepRow rfl 24 (.tmp 10) (.tmp 42) rfl _ #[.int .u64 i0, .int .u64 i1, .int .u64 i2, .int .u64 i3] rfl rfl HN.out.get2 Cs.clInfo rfl (by simp [Value.oneCell']) ?_; intro w8 hst8; have HN := Lib.hid hst8; clear hst8) | (refine St.stepRow rfl 24 (.tmp 11) (.tmp 46) rfl _ #[.int .u64 o0, .int .u64 o1, .int .u64 o2, .int .u64 o3] rfl rfl HN.out.get2 Cs.clInfo rfl (by simp [Value.oneCell']) ?_; intro w8 hst8; have HN := Lib.hid hst8; clear hst8))
                  refine hK.out _ _ ?_ (fun hHeld => ?_)
                  · (try dsimp only); (exact ⟨bkeep HN.out.bel x0, bkeep HN.out.bel x1, bkeep HN.out.bel x2, bkeep HN.out.bel x3, bkeep HN.out.bel z0, bkeep HN.out.bel z1, bkeep HN.out.bel z2, bkeep HN.out.bel z3⟩)
                  clear hK K
                  try simp only [List.getElem_toArray, List.getElem_cons_zero, List.getElem_cons_succ, Act.put, List.setIfInBounds_toArray, List.set_cons_zero, List.set_cons_succ]
                  refine wpAnyH_done (by kernel_rfl) ?_ _
                  exact REST _ _ _ (HST.out.join HN.out)
            intro gI gO W hst
            have HST := Lib.hid hst
            clear HN x0 x1 x2 x3 z0 z1 z2 z3
            obtain ⟨x0, x1, x2, x3⟩ := Cs.at4 hst 1 rfl
            obtain ⟨z0, z1, z2, z3⟩ := Cs.at4 hst 0 rfl
            clear hst
            obtain ⟨bI, hbI⟩ : ∃ b, decide ([i0, i1, i2, i3] = Dm.zero) = b := ⟨_, rfl⟩
            obtain ⟨bO, hbO⟩ : ∃ b, decide ([o0, o1, o2, o3] = Dm.zero) = b := ⟨_, rfl⟩
            have hq1 := fun W => Cp.eqz (a0 := i0) (a1 := i1) (a2 := i2) (a3 := i3) W
            have hq2 := fun W => Cp.eqz (a0 := o0) (a1 := o1) (a2 := o2) (a3 := o3) W
            rw [hbI] at hq1
            rw [hbO] at hq2
            have HGO := Lib.hid (fun vn' NY W (hv : NY = NX ++ ((Cp.one [i0, i1, i2, i3]).map Cs.clV ++ (Cp.one [o0, o1, o2, o3]).map Cs.clV)) (hs : St w W [aOwn 24 4 vn' NY, aMap 24 3 gm (m + 1) M2, aCel gc 24 #[.int .u64 q0, .int .u64 q1, .int .u64 q2, .int .u64 q3], aOwn 24 4 (.slice (some ⟨g, 0, none⟩) all.length c) (all.map Cs.clV)]) => (show St w W [aOwn 24 4 vn' (((all.take (j + 1)).flatMap (Cp.cut [q0, q1, q2, q3])).map Cs.clV), aMap 24 3 gm (m + 1) M2, aCel gc 24 #[.int .u64 q0, .int .u64 q1, .int .u64 q2, .int .u64 q3], aOwn 24 4 (.slice (some ⟨g, 0, none⟩) all.length c) (all.map Cs.clV)] by rw [HNT.out, ← hv]; exact hs))
            rw [show Cp.one [i0, i1, i2, i3] = if decide ([i0, i1, i2, i3] = Dm.zero) = true then [] else [[i0, i1, i2, i3]] by simp only [Cp.one, decide_eq_true_eq], show Cp.one [o0, o1, o2, o3] = if decide ([o0, o1, o2, o3] = Dm.zero) = true then [] else [[o0, o1, o2, o3]] by simp only [Cp.one, decide_eq_true_eq], hbI, hbO] at HGO
            clear HNT hbI hbO
            have HA0 := Lib.hid (HST.out.pick (ρ := [aOwn 24 4 vn NX, aCel gO 24 #[.int .u64 o0, .int .u64 o1, .int .u64 o2, .int .u64 o3], aMap 24 3 gm (m + 1) M2, aCel gc 24 #[.int .u64 q0, .int .u64 q1, .int .u64 q2, .int .u64 q3], aOwn 24 4 (.slice (some ⟨g, 0, none⟩) all.length c) (all.map Cs.clV)]) [3, 0, 4, 5, 6] 7 rfl rfl)
            clear HST
            cases bI
            · cases bO
              · go_wp2_with (first | (at_builtin; refine St.app1n Cs.clE rfl (.tmp 50) (.tmp 52) rfl rfl HA0.out (.agg #[.int .u64 i0, .int .u64 i1, .int .u64 i2, .int .u64 i3]) rfl _ 1 rfl rfl rfl (by intro q hq; simp [Value.cells] at hq; rcases hq with rfl | rfl | rfl | rfl <;> rfl) (by (try simp only [List.length_append, List.length_singleton]); unfold maxLen; omega) (by (try simp only [List.length_append, List.length_singleton]); omega) ?_; intro gI' n1 c1 w6 hst9; obtain ⟨z0, z1, z2, z3⟩ := Cs.at4 hst9 1 rfl; have HA1 := Lib.hid hst9; clear hst9) | (at_builtin; refine St.app1n Cs.clE rfl (.tmp 57) (.tmp 59) rfl rfl HA1.out (.agg #[.int .u64 o0, .int .u64 o1, .int .u64 o2, .int .u64 o3]) rfl _ 1 rfl rfl rfl (by intro q hq; simp [Value.cells] at hq; rcases hq with rfl | rfl | rfl | rfl <;> rfl) (by (try simp only [List.length_append, List.length_singleton]); unfold maxLen; omega) (by (try simp only [List.length_append, List.length_singleton]); omega) ?_; intro gO' n2 c2 w7 hst9; have HA2 := Lib.hid hst9; clear hst9))
                go_roundg (all.length - (j + 1))
                case measure => have := HGY.out; omega
                case rel => exact ⟨j + 1, _, by omega, rfl, by go_num, rfl, HGO.out _ _ _ (by simp [Cs.clV, Cs.clA, Cs.wV]) (HA2.out.pick [0, 2, 3, 4] 5 rfl rfl)⟩
              · go_wp2_with (first | (at_builtin; refine St.app1n Cs.clE rfl (.tmp 50) (.tmp 52) rfl rfl HA0.out (.agg #[.int .u64 i0, .int .u64 i1, .int .u64 i2, .int .u64 i3]) rfl _ 1 rfl rfl rfl (by intro q hq; simp [Value.cells] at hq; rcases hq with rfl | rfl | rfl | rfl <;> rfl) (by (try simp only [List.length_append, List.length_singleton]); unfold maxLen; omega) (by (try simp only [List.length_append, List.length_singleton]); omega) ?_; intro gI' n1 c1 w6 hst9; obtain ⟨z0, z1, z2, z3⟩ := Cs.at4 hst9 1 rfl; have HA1 := Lib.hid hst9; clear hst9))
                go_roundg (all.length - (j + 1))
                case measure => have := HGY.out; omega
                case rel => exact ⟨j + 1, _, by omega, rfl, by go_num, rfl, HGO.out _ _ _ (by simp [Cs.clV, Cs.clA, Cs.wV]) (HA1.out.pick [0, 2, 3, 4] 5 rfl rfl)⟩
            · cases bO
              · go_wp2_with (first | (at_builtin; refine St.app1n Cs.clE rfl (.tmp 57) (.tmp 59) rfl rfl HA0.out (.agg #[.int .u64 o0, .int .u64 o1, .int .u64 o2, .int .u64 o3]) rfl _ 1 rfl rfl rfl (by intro q hq; simp [Value.cells] at hq; rcases hq with rfl | rfl | rfl | rfl <;> rfl) (by (try simp only [List.length_append, List.length_singleton]); unfold maxLen; omega) (by (try simp only [List.length_append, List.length_singleton]); omega) ?_; intro gO' n2 c2 w7 hst9; have HA2 := Lib.hid hst9; clear hst9))
                go_roundg (all.length - (j + 1))
                case measure => have := HGY.out; omega
                case rel => exact ⟨j + 1, _, by omega, rfl, by go_num, rfl, HGO.out _ _ _ (by simp [Cs.clV, Cs.clA, Cs.wV]) (HA2.out.pick [0, 2, 3, 4] 5 rfl rfl)⟩
              · go_wp2
                go_roundg (all.length - (j + 1))
                case measure => have := HGY.out; omega
                case rel => exact ⟨j + 1, _, by omega, rfl, by go_num, rfl, HGO.out _ _ _ (by simp [Cs.clV, Cs.clA, Cs.wV]) (HA0.out.pick [0, 2, 3, 4] 5 rfl rfl)⟩
          · obtain rfl : j = all.length := by omega
            have hst2 := hst
            rw [List.take_length] at hst2
            have hal2 := Cp.inv_len HTKI.out
            obtain ⟨g2, c2, hv2, -⟩ := Cp.own_at (Cp.ok_of HTKI.out) (by omega) (List.length_pos_of_mem (HTKI.out.got 0 (by decide))) (hst2.nth 0 rfl).own
            subst hv2
            have HST := Lib.hid hst2
            clear hst hst2
            go_wp2
            go_roundg (L.length - (i + 1))
            case measure => have := HGZ.out; omega
            case rel => exact ⟨i + 1, g2, c2, m + 1, _, M2, by omega, rfl, by go_num, rfl, by omega, HTKI, HTKM, HST.out.pick [1, 0] 4 rfl rfl⟩
    · have hne : i = L.length := by omega
      have HI2 := Lib.hid (show Cp.Inv L all by have := HI.out; rwa [hne, List.take_length] at this)
      have HST := Lib.hid hst.drop
      have HLN := Lib.hid (Cp.inv_len HI2.out)
      have HNE := Lib.hid (show 0 < all.length from List.length_pos_of_mem (HI2.out.got 0 (by decide)))
      have hge : ¬ (i : Int) < L.length := by omega
      clear hst HI HC hne hlt hi hmi hllI
      obtain ⟨n, hn⟩ : ∃ n, all.length = n := ⟨_, rfl⟩
      rw [hn] at HST HLN HNE ⊢
      have hnI := HLN.out
      have HN := Lib.hid hn
      clear hn
      go_wp2_with (fail)
      clear hge
      go_loopg [12] (n - 1) (fun gz v12 wr => ∃ (i : Nat) (N : List (List Nat)), 1 ≤ i ∧ i ≤ n ∧ gz = n - i ∧ v12 = .int .i64 i ∧ Hid (N.length = n) ∧ Hid (Cp.Inv L N) ∧ Hid (Cp.near N i i) ∧ St w wr [aOwn 24 4 (.slice (some ⟨g, 0, none⟩) n c) (N.map Cs.clV)])
      case atStart => exact ⟨1, all, by omega, HNE.out, rfl, rfl, HN, HI2, Lib.hid (Cp.near_start all), HST.out⟩
      case round =>
        clear HST HI2 HNE HN HGZ
        obtain ⟨i, N, hi1, hin, hgz, rfl, HLN, HI, HNR, hst⟩ := hrel
        have HGZ := Lib.hid hgz
        have HST := Lib.hid hst
        clear hgz hst
        by_cases hlt : i < n
        · have hltI : (i : Int) < n := by omega
          go_wp2_with (fail)
          go_loopg [13] i (fun gy v13 wr => ∃ (k : Nat) (N : List (List Nat)), k ≤ i ∧ gy = k ∧ v13 = .int .i64 k ∧ Hid (N.length = n) ∧ Hid (Cp.Inv L N) ∧ Hid (Cp.near N i k) ∧ St w wr [aOwn 24 4 (.slice (some ⟨g, 0, none⟩) n c) (N.map Cs.clV)])
          case atStart => exact ⟨i, N, by omega, rfl, rfl, HLN, HI, HNR, HST.out⟩
          case round =>
            clear HST HI HLN HNR
            obtain ⟨k, N, hk, hgy, rfl, HLN, HI, HNR, hst⟩ := hrel
            have HGY := Lib.hid hgy
            clear hgy
            by_cases hk0 : k = 0
            · subst hk0
              have HNR2 := Lib.hid (Cp.near_end (by omega) HNR.out (.inl rfl))
              have HST := Lib.hid hst
              clear hst
              go_wp2_with (fail)
              refine wp_region_held_drew (S := (fun w' => True)) (by kernel_rfl) ?_ (fun hHeld => ?_)
              · (try dsimp only); (first | trivial | skip)

              refine wpAnyH_take (i := 0) (v := ?_) rfl (by kernel_rfl) (by kernel_rfl) (by kernel_rfl) (fun _ _ _ h => h) (Or.inl ⟨by rfl, ?_⟩) (by assumption) ?_
              rotate_left; focus (intro w hSw; (try dsimp only at hSw); go_simp; try (with_reducible rfl); done)
              try simp only [List.getElem_toArray, List.getElem_cons_zero, List.getElem_cons_succ, Act.put, List.setIfInBounds_toArray, List.set_cons_zero, List.set_cons_succ]
              refine wpAnyH_take (i := 1) (v := ?_) rfl (by kernel_rfl) (by kernel_rfl) (by kernel_rfl) (fun _ _ _ h => h) (Or.inl ⟨by rfl, ?_⟩) (by assumption) ?_
              rotate_left; focus (intro w hSw; (try dsimp only at hSw); go_simp; try (with_reducible rfl); done)
              try simp only [List.getElem_toArray, List.getElem_cons_zero, List.getElem_cons_succ, Act.put, List.setIfInBounds_toArray, List.set_cons_zero, List.set_cons_succ]
              refine wpAnyH_take (i := 2) (v := ?_) rfl (by kernel_rfl) (by kernel_rfl) (by kernel_rfl) (fun _ _ _ h => h) (Or.inl ⟨by rfl, ?_⟩) (by assumption) ?_
              rotate_left; focus (intro w hSw; (try dsimp only at hSw); go_simp; try (with_reducible rfl); done)
              try simp only [List.getElem_toArray, List.getElem_cons_zero, List.getElem_cons_succ, Act.put, List.setIfInBounds_toArray, List.set_cons_zero, List.set_cons_succ]
              first | (refine wpAnyH_take (i := 3) (v := undef) rfl (by kernel_rfl) (by kernel_rfl) (by kernel_rfl) (fun _ _ _ h => h) (Or.inr ⟨by rfl, rfl⟩) (by assumption) ?_) | (refine wpAnyH_take (i := 3) (v := ?_) rfl (by kernel_rfl) (by kernel_rfl) (by kernel_rfl) (fun _ _ _ h => h) (Or.inl ⟨by rfl, ?_⟩) (by assumption) ?_; rotate_left; focus (intro w hSw; (try dsimp only at hSw); go_simp; try (with_reducible rfl); done))
              try simp only [List.getElem_toArray, List.getElem_cons_zero, List.getElem_cons_succ, Act.put, List.setIfInBounds_toArray, List.set_cons_zero, List.set_cons_succ]
              first | (refine wpAnyH_take (i := 4) (v := undef) rfl (by kernel_rfl) (by kernel_rfl) (by kernel_rfl) (fun _ _ _ h => h) (Or.inr ⟨by rfl, rfl⟩) (by assumption) ?_) | (refine wpAnyH_take (i := 4) (v := ?_) rfl (by kernel_rfl) (by kernel_rfl) (by kernel_rfl) (fun _ _ _ h => h) (Or.inl ⟨by rfl, ?_⟩) (by assumption) ?_; rotate_left; focus (intro w hSw; (try dsimp only at hSw); go_simp; try (with_reducible rfl); done))
              try simp only [List.getElem_toArray, List.getElem_cons_zero, List.getElem_cons_succ, Act.put, List.setIfInBounds_toArray, List.set_cons_zero, List.set_cons_succ]
              first | (refine wpAnyH_take (i := 5) (v := undef) rfl (by kernel_rfl) (by kernel_rfl) (by kernel_rfl) (fun _ _ _ h => h) (Or.inr ⟨by rfl, rfl⟩) (by assumption) ?_) | (refine wpAnyH_take (i := 5) (v := ?_) rfl (by kernel_rfl) (by kernel_rfl) (by kernel_rfl) (fun _ _ _ h => h) (Or.inl ⟨by rfl, ?_⟩) (by assumption) ?_; rotate_left; focus (intro w hSw; (try dsimp only at hSw); go_simp; try (with_reducible rfl); done))
              try simp only [List.getElem_toArray, List.getElem_cons_zero, List.getElem_cons_succ, Act.put, List.setIfInBounds_toArray, List.set_cons_zero, List.set_cons_succ]
              first | (refine wpAnyH_take (i := 6) (v := undef) rfl (by kernel_rfl) (by kernel_rfl) (by kernel_rfl) (fun _ _ _ h => h) (Or.inr ⟨by rfl, rfl⟩) (by assumption) ?_) | (refine wpAnyH_take (i := 6) (v := ?_) rfl (by kernel_rfl) (by kernel_rfl) (by kernel_rfl) (fun _ _ _ h => h) (Or.inl ⟨by rfl, ?_⟩) (by assumption) ?_; rotate_left; focus (intro w hSw; (try dsimp only at hSw); go_simp; try (with_reducible rfl); done))
              try simp only [List.getElem_toArray, List.getElem_cons_zero, List.getElem_cons_succ, Act.put, List.setIfInBounds_toArray, List.set_cons_zero, List.set_cons_succ]
              first | (refine wpAnyH_take (i := 7) (v := undef) rfl (by kernel_rfl) (by kernel_rfl) (by kernel_rfl) (fun _ _ _ h => h) (Or.inr ⟨by rfl, rfl⟩) (by assumption) ?_) | (refine wpAnyH_take (i := 7) (v := ?_) rfl (by kernel_rfl) (by kernel_rfl) (by kernel_rfl) (fun _ _ _ h => h) (Or.inl ⟨by rfl, ?_⟩) (by assumption) ?_; rotate_left; focus (intro w hSw; (try dsimp only at hSw); go_simp; try (with_reducible rfl); done))
              try simp only [List.getElem_toArray, List.getElem_cons_zero, List.getElem_cons_succ, Act.put, List.setIfInBounds_toArray, List.set_cons_zero, List.set_cons_succ]
              first | (refine wpAnyH_take (i := 8) (v := undef) rfl (by kernel_rfl) (by kernel_rfl) (by kernel_rfl) (fun _ _ _ h => h) (Or.inr ⟨by rfl, rfl⟩) (by assumption) ?_) | (refine wpAnyH_take (i := 8) (v := ?_) rfl (by kernel_rfl) (by kernel_rfl) (by kernel_rfl) (fun _ _ _ h => h) (Or.inl ⟨by rfl, ?_⟩) (by assumption) ?_; rotate_left; focus (intro w hSw; (try dsimp only at hSw); go_simp; try (with_reducible rfl); done))
              try simp only [List.getElem_toArray, List.getElem_cons_zero, List.getElem_cons_succ, Act.put, List.setIfInBounds_toArray, List.set_cons_zero, List.set_cons_succ]
              first | (refine wpAnyH_take (i := 9) (v := undef) rfl (by kernel_rfl) (by kernel_rfl) (by kernel_rfl) (fun _ _ _ h => h) (Or.inr ⟨by rfl, rfl⟩) (by assumption) ?_) | (refine wpAnyH_take (i := 9) (v := ?_) rfl (by kernel_rfl) (by kernel_rfl) (by kernel_rfl) (fun _ _ _ h => h) (Or.inl ⟨by rfl, ?_⟩) (by assumption) ?_; rotate_left; focus (intro w hSw; (try dsimp only at hSw); go_simp; try (with_reducible rfl); done))
              try simp only [List.getElem_toArray, List.getElem_cons_zero, List.getElem_cons_succ, Act.put, List.setIfInBounds_toArray, List.set_cons_zero, List.set_cons_succ]
              first | (refine wpAnyH_take (i := 10) (v := undef) rfl (by kernel_rfl) (by kernel_rfl) (by kernel_rfl) (fun _ _ _ h => h) (Or.inr ⟨by rfl, rfl⟩) (by assumption) ?_) | (refine wpAnyH_take (i := 10) (v := ?_) rfl (by kernel_rfl) (by kernel_rfl) (by kernel_rfl) (fun _ _ _ h => h) (Or.inl ⟨by rfl, ?_⟩) (by assumption) ?_; rotate_left; focus (intro w hSw; (try dsimp only at hSw); go_simp; try (with_reducible rfl); done))
              try simp only [List.getElem_toArray, List.getElem_cons_zero, List.getElem_cons_succ, Act.put, List.setIfInBounds_toArray, List.set_cons_zero, List.set_cons_succ]
              first | (refine wpAnyH_take (i := 11) (v := undef) rfl (by kernel_rfl) (by kernel_rfl) (by kernel_rfl) (fun _ _ _ h => h) (Or.inr ⟨by rfl, rfl⟩) (by assumption) ?_) | (refine wpAnyH_take (i := 11) (v := ?_) rfl (by kernel_rfl) (by kernel_rfl) (by kernel_rfl) (fun _ _ _ h => h) (Or.inl ⟨by rfl, ?_⟩) (by assumption) ?_; rotate_left; focus (intro w hSw; (try dsimp only at hSw); go_simp; try (with_reducible rfl); done))
              try simp only [List.getElem_toArray, List.getElem_cons_zero, List.getElem_cons_succ, Act.put, List.setIfInBounds_toArray, List.set_cons_zero, List.set_cons_succ]
              first | (refine wpAnyH_take (i := 12) (v := undef) rfl (by kernel_rfl) (by kernel_rfl) (by kernel_rfl) (fun _ _ _ h => h) (Or.inr ⟨by rfl, rfl⟩) (by assumption) ?_) | (refine wpAnyH_take (i := 12) (v := ?_) rfl (by kernel_rfl) (by kernel_rfl) (by kernel_rfl) (fun _ _ _ h => h) (Or.inl ⟨by rfl, ?_⟩) (by assumption) ?_; rotate_left; focus (intro w hSw; (try dsimp only at hSw); go_simp; try (with_reducible rfl); done))
              try simp only [List.getElem_toArray, List.getElem_cons_zero, List.getElem_cons_succ, Act.put, List.setIfInBounds_toArray, List.set_cons_zero, List.set_cons_succ]
              first | (refine wpAnyH_take (i := 13) (v := undef) rfl (by kernel_rfl) (by kernel_rfl) (by kernel_rfl) (fun _ _ _ h => h) (Or.inr ⟨by rfl, rfl⟩) (by assumption) ?_) | (refine wpAnyH_take (i := 13) (v := ?_) rfl (by kernel_rfl) (by kernel_rfl) (by kernel_rfl) (fun _ _ _ h => h) (Or.inl ⟨by rfl, ?_⟩) (by assumption) ?_; rotate_left; focus (intro w hSw; (try dsimp only at hSw); go_simp; try (with_reducible rfl); done))
              try simp only [List.getElem_toArray, List.getElem_cons_zero, List.getElem_cons_succ, Act.put, List.setIfInBounds_toArray, List.set_cons_zero, List.set_cons_succ]
              first | (refine wpAnyH_take (i := 14) (v := undef) rfl (by kernel_rfl) (by kernel_rfl) (by kernel_rfl) (fun _ _ _ h => h) (Or.inr ⟨by rfl, rfl⟩) (by assumption) ?_) | (refine wpAnyH_take (i := 14) (v := ?_) rfl (by kernel_rfl) (by kernel_rfl) (by kernel_rfl) (fun _ _ _ h => h) (Or.inl ⟨by rfl, ?_⟩) (by assumption) ?_; rotate_left; focus (intro w hSw; (try dsimp only at hSw); go_simp; try (with_reducible rfl); done))
              try simp only [List.getElem_toArray, List.getElem_cons_zero, List.getElem_cons_succ, Act.put, List.setIfInBounds_toArray, List.set_cons_zero, List.set_cons_succ]
              refine wpAnyH_take (i := 15) (v := ?_) rfl (by kernel_rfl) (by kernel_rfl) (by kernel_rfl) (fun _ _ _ h => h) (Or.inl ⟨by rfl, ?_⟩) (by assumption) ?_
              rotate_left; focus (intro w hSw; (try dsimp only at hSw); go_simp; try (with_reducible rfl); done)
              try simp only [List.getElem_toArray, List.getElem_cons_zero, List.getElem_cons_succ, Act.put, List.setIfInBounds_toArray, List.set_cons_zero, List.set_cons_succ]
              refine wpAnyH_done (by kernel_rfl) ?_ _
              go_wp2
              go_roundg (n - (i + 1))
              case measure => have := HGZ.out; omega
              case rel => exact ⟨i + 1, N, by omega, by omega, by omega, by go_num, HLN, HI, HNR2, HST.out.drew⟩
            · have hkI : 0 < (k : Int) := by omega
              have hkd : decide (0 < (k : Int)) = true := decide_eq_true hkI
              have hkN : 0 < k := by omega
              have hkd2 : decide (0 < k) = true := decide_eq_true hkN
              have hkw : IntKind.i64.wrap ((k - 1 : Nat) : Int) = ((k - 1 : Nat) : Int) := IntWalk.i64_in _ (by omega)
              have hkn : (k : Int) < n := by omega
              have hkm : ((k : Int) - 1) = ((k - 1 : Nat) : Int) := by omega
              have hkn2 : ((k - 1 : Nat) : Int) < n := by omega
              have hk1 : k < N.length := by rw [HLN.out]; omega
              have hk2 : k - 1 < N.length := by rw [HLN.out]; omega
              have hlo := fun x (hx : x < N.length) => (show ∃ y, y < 256 ∧ Dm.mem (N.getD x []) y = true by
                obtain ⟨y, hy, hby⟩ := HI.out.of (N.getD x []) (by rw [List.getD_eq_getElem?_getD, List.getElem?_eq_getElem hx]; exact List.getElem_mem hx)
                exact ⟨y, hy, by rw [hby, Cp.mem_blk hy]; exact Cp.alike_self _ _⟩)
              obtain ⟨y1, hy1, hm1⟩ := hlo k hk1
              obtain ⟨y2, hy2, hm2⟩ := hlo (k - 1) hk2
              have hoks := Cp.ok_of HI.out
              have hal := Cp.inv_len HI.out
              have hat := Cp.own_at' hoks hal (by omega) (hst.nth 0 rfl).own
              have hok1 := hat.ok k hk1
              have hok2 := hat.ok (k - 1) hk2
              obtain ⟨u0, u1, u2, u3, hu, x0, x1, x2, x3⟩ := hat.four hk1
              obtain ⟨v0, v1, v2, v3, hv, z0, z1, z2, z3⟩ := hat.four hk2
              simp only [Nat.zero_add] at x0 x1 x2 x3 z0 z1 z2 z3
              have HNE := Lib.hid (fun h => Cp.near_end hk HNR.out (.inr h))
              have HSW := Lib.hid (fun h => Cp.near_swp (by omega) hk (by rw [HLN.out]; omega) HNR.out h)
              have HSI := Lib.hid (HI.out.perm (Cp.swp_perm hk1).symm)
              have HSL := Lib.hid ((Cp.swp_perm hk1).length_eq.trans HLN.out)
              have HSD := Lib.hid (show Cp.swp N k = (N.set k [v0, v1, v2, v3]).set (k - 1) [u0, u1, u2, u3] by unfold Cp.swp; rw [hu, hv])
              have HL1 := Lib.hid (fun W' (hb : Below w.heap.size w W') => clLeast_any _ hok1 y1 hy1 hm1 W' (fun j hj => bkeep hb (HT.out j hj)))
              have HL2 := Lib.hid (fun W' (hb : Below w.heap.size w W') => clLeast_any _ hok2 y2 hy2 hm2 W' (fun j hj => bkeep hb (HT.out j hj)))
              obtain ⟨l1, hl1⟩ : ∃ l, Cp.lo (N.getD k []) = l := ⟨_, rfl⟩
              obtain ⟨l2, hl2⟩ : ∃ l, Cp.lo (N.getD (k - 1) []) = l := ⟨_, rfl⟩
              rw [hl1, hl2] at HNE HSW
              rw [hl1, hu, show Cs.clV [u0, u1, u2, u3] = .agg #[.int .u64 u0, .int .u64 u1, .int .u64 u2, .int .u64 u3] from rfl] at HL1
              rw [hl2, hv, show Cs.clV [v0, v1, v2, v3] = .agg #[.int .u64 v0, .int .u64 v1, .int .u64 v2, .int .u64 v3] from rfl] at HL2
              have HOKS := Lib.hid hoks
              have HK1 := Lib.hid hk1; have HK2 := Lib.hid hk2
              clear hk1 hk2 hlo hy1 hm1 hy2 hm2 hoks hal hat hok1 hok2 hu hv hl1 hl2 HNR
              have HST := Lib.hid hst.drew
              have HN := Lib.hid (St.init wr.drew)
              clear hst
              go_wp2_with (fail)
              refine wp_region_held_drew (S := (fun w' => w'.cell? ⟨g, k * 4, none⟩ = some (.int .u64 u0) ∧ w'.cell? ⟨g, k * 4 + 1, none⟩ = some (.int .u64 u1) ∧ w'.cell? ⟨g, k * 4 + 2, none⟩ = some (.int .u64 u2) ∧ w'.cell? ⟨g, k * 4 + 3, none⟩ = some (.int .u64 u3) ∧ w'.cell? ⟨g, (k - 1) * 4, none⟩ = some (.int .u64 v0) ∧ w'.cell? ⟨g, (k - 1) * 4 + 1, none⟩ = some (.int .u64 v1) ∧ w'.cell? ⟨g, (k - 1) * 4 + 2, none⟩ = some (.int .u64 v2) ∧ w'.cell? ⟨g, (k - 1) * 4 + 3, none⟩ = some (.int .u64 v3))) (by kernel_rfl) ?_ (fun hHeld => ?_)
              · (try dsimp only); (exact ⟨bkeep HN.out.bel x0, bkeep HN.out.bel x1, bkeep HN.out.bel x2, bkeep HN.out.bel x3, bkeep HN.out.bel z0, bkeep HN.out.bel z1, bkeep HN.out.bel z2, bkeep HN.out.bel z3⟩)

              refine wpAnyH_take (i := 0) (v := ?_) rfl (by kernel_rfl) (by kernel_rfl) (by kernel_rfl) (fun _ _ _ h => h) (Or.inl ⟨by rfl, ?_⟩) (by assumption) ?_
              rotate_left; focus (intro w hSw; (try dsimp only at hSw); go_simp; try (with_reducible rfl); done)
              try simp only [List.getElem_toArray, List.getElem_cons_zero, List.getElem_cons_succ, Act.put, List.setIfInBounds_toArray, List.set_cons_zero, List.set_cons_succ]
              refine wpAnyH_take (i := 1) (v := ?_) rfl (by kernel_rfl) (by kernel_rfl) (by kernel_rfl) (fun _ _ _ h => h) (Or.inl ⟨by rfl, ?_⟩) (by assumption) ?_
              rotate_left; focus (intro w hSw; (try dsimp only at hSw); go_simp; try (with_reducible rfl); done)
              try simp only [List.getElem_toArray, List.getElem_cons_zero, List.getElem_cons_succ, Act.put, List.setIfInBounds_toArray, List.set_cons_zero, List.set_cons_succ]
              refine wpAnyH_take (i := 2) (v := ?_) rfl (by kernel_rfl) (by kernel_rfl) (by kernel_rfl) (fun _ _ _ h => h) (Or.inl ⟨by rfl, ?_⟩) (by assumption) ?_
              rotate_left; focus (intro w hSw; (try dsimp only at hSw); go_simp; try (with_reducible rfl); done)
              try simp only [List.getElem_toArray, List.getElem_cons_zero, List.getElem_cons_succ, Act.put, List.setIfInBounds_toArray, List.set_cons_zero, List.set_cons_succ]
              refine wpAnyH_take (i := 3) (v := ?_) rfl (by kernel_rfl) (by kernel_rfl) (by kernel_rfl) (fun _ _ _ h => h) (Or.inl ⟨by rfl, ?_⟩) (by assumption) ?_
              rotate_left; focus (intro w hSw; (try dsimp only at hSw); go_simp; try (with_reducible rfl); done)
              try simp only [List.getElem_toArray, List.getElem_cons_zero, List.getElem_cons_succ, Act.put, List.setIfInBounds_toArray, List.set_cons_zero, List.set_cons_succ]
              refine wpAnyH_take (i := 4) (v := ?_) rfl (by kernel_rfl) (by kernel_rfl) (by kernel_rfl) (fun _ _ _ h => h) (Or.inl ⟨by rfl, ?_⟩) (by assumption) ?_
              rotate_left; focus (intro w hSw; (try dsimp only at hSw); go_simp; try (with_reducible rfl); done)
              try simp only [List.getElem_toArray, List.getElem_cons_zero, List.getElem_cons_succ, Act.put, List.setIfInBounds_toArray, List.set_cons_zero, List.set_cons_succ]
              refine wpAnyH_take (i := 5) (v := ?_) rfl (by kernel_rfl) (by kernel_rfl) (by kernel_rfl) (fun _ _ _ h => h) (Or.inl ⟨by rfl, ?_⟩) (by assumption) ?_
              rotate_left; focus (intro w hSw; (try dsimp only at hSw); go_simp; try (with_reducible rfl); done)
              try simp only [List.getElem_toArray, List.getElem_cons_zero, List.getElem_cons_succ, Act.put, List.setIfInBounds_toArray, List.set_cons_zero, List.set_cons_succ]
              refine wpAnyH_take (i := 6) (v := ?_) rfl (by kernel_rfl) (by kernel_rfl) (by kernel_rfl) (fun _ _ _ h => h) (Or.inl ⟨by rfl, ?_⟩) (by assumption) ?_
              rotate_left; focus (intro w hSw; (try dsimp only at hSw); go_simp; try (with_reducible rfl); done)
              try simp only [List.getElem_toArray, List.getElem_cons_zero, List.getElem_cons_succ, Act.put, List.setIfInBounds_toArray, List.set_cons_zero, List.set_cons_succ]
              refine wpAnyH_take (i := 8) (v := ?_) rfl (by kernel_rfl) (by kernel_rfl) (by kernel_rfl) (fun _ _ _ h => h) (Or.inl ⟨by rfl, ?_⟩) (by assumption) ?_
              rotate_left; focus (intro w hSw; (try dsimp only at hSw); go_simp; try (with_reducible rfl); done)
              try simp only [List.getElem_toArray, List.getElem_cons_zero, List.getElem_cons_succ, Act.put, List.setIfInBounds_toArray, List.set_cons_zero, List.set_cons_succ]
              refine wpAnyH_take (i := 9) (v := ?_) rfl (by kernel_rfl) (by kernel_rfl) (by kernel_rfl) (fun _ _ _ h => h) (Or.inl ⟨by rfl, ?_⟩) (by assumption) ?_
              rotate_left; focus (intro w hSw; (try dsimp only at hSw); go_simp; try (with_reducible rfl); done)
              try simp only [List.getElem_toArray, List.getElem_cons_zero, List.getElem_cons_succ, Act.put, List.setIfInBounds_toArray, List.set_cons_zero, List.set_cons_succ]
              refine wpAnyH_take (i := 10) (v := ?_) rfl (by kernel_rfl) (by kernel_rfl) (by kernel_rfl) (fun _ _ _ h => h) (Or.inl ⟨by rfl, ?_⟩) (by assumption) ?_
              rotate_left; focus (intro w hSw; (try dsimp only at hSw); go_simp; try (with_reducible rfl); done)
              try simp only [List.getElem_toArray, List.getElem_cons_zero, List.getElem_cons_succ, Act.put, List.setIfInBounds_toArray, List.set_cons_zero, List.set_cons_succ]
              refine wpAnyH_take (i := 11) (v := ?_) rfl (by kernel_rfl) (by kernel_rfl) (by kernel_rfl) (fun _ _ _ h => h) (Or.inl ⟨by rfl, ?_⟩) (by assumption) ?_
              rotate_left; focus (intro w hSw; (try dsimp only at hSw); go_simp; try (with_reducible rfl); done)
              try simp only [List.getElem_toArray, List.getElem_cons_zero, List.getElem_cons_succ, Act.put, List.setIfInBounds_toArray, List.set_cons_zero, List.set_cons_succ]
              refine wpAnyH_take (i := 12) (v := ?_) rfl (by kernel_rfl) (by kernel_rfl) (by kernel_rfl) (fun _ _ _ h => h) (Or.inl ⟨by rfl, ?_⟩) (by assumption) ?_
              rotate_left; focus (intro w hSw; (try dsimp only at hSw); go_simp; try (with_reducible rfl); done)
              try simp only [List.getElem_toArray, List.getElem_cons_zero, List.getElem_cons_succ, Act.put, List.setIfInBounds_toArray, List.set_cons_zero, List.set_cons_succ]
              refine wpAnyH_ready (rs := [7]) (by kernel_rfl) (by simp) ?_
              refine AllReadyH.cons rfl (fun K hK => ?_) AllReadyH.nil
              go_simp
              (go_at_call 43; (first | (with_reducible refine (HL1.out _ (HST.out.bel.trans (HN.out.bel.mono HST.out.bel.size))).mono ?_) | (with_reducible refine (HL2.out _ (HST.out.bel.trans (HN.out.bel.mono HST.out.bel.size))).mono ?_)); rintro e w8 ⟨rfl, hb8⟩; have HN := Lib.hid (HN.out.call hb8); clear hb8)
              refine hK.out _ _ ?_ (fun hHeld => ?_)
              · (try dsimp only); (exact ⟨bkeep HN.out.bel x0, bkeep HN.out.bel x1, bkeep HN.out.bel x2, bkeep HN.out.bel x3, bkeep HN.out.bel z0, bkeep HN.out.bel z1, bkeep HN.out.bel z2, bkeep HN.out.bel z3⟩)
              clear hK K
              try simp only [List.getElem_toArray, List.getElem_cons_zero, List.getElem_cons_succ, Act.put, List.setIfInBounds_toArray, List.set_cons_zero, List.set_cons_succ]
              refine wpAnyH_ready (rs := [13]) (by kernel_rfl) (by simp) ?_
              refine AllReadyH.cons rfl (fun K hK => ?_) AllReadyH.nil
              go_simp
              (go_at_call 43; (first | (with_reducible refine (HL1.out _ (HST.out.bel.trans (HN.out.bel.mono HST.out.bel.size))).mono ?_) | (with_reducible refine (HL2.out _ (HST.out.bel.trans (HN.out.bel.mono HST.out.bel.size))).mono ?_)); rintro e w8 ⟨rfl, hb8⟩; have HN := Lib.hid (HN.out.call hb8); clear hb8)
              refine hK.out _ _ ?_ (fun hHeld => ?_)
              · (try dsimp only); (exact ⟨bkeep HN.out.bel x0, bkeep HN.out.bel x1, bkeep HN.out.bel x2, bkeep HN.out.bel x3, bkeep HN.out.bel z0, bkeep HN.out.bel z1, bkeep HN.out.bel z2, bkeep HN.out.bel z3⟩)
              clear hK K
              try simp only [List.getElem_toArray, List.getElem_cons_zero, List.getElem_cons_succ, Act.put, List.setIfInBounds_toArray, List.set_cons_zero, List.set_cons_succ]
              refine wpAnyH_take (i := 14) (v := ?_) rfl (by kernel_rfl) (by kernel_rfl) (by kernel_rfl) (fun _ _ _ h => h) (Or.inl ⟨by rfl, ?_⟩) (by assumption) ?_
              rotate_left; focus (intro w hSw; (try dsimp only at hSw); go_simp; try (with_reducible rfl); done)
              try simp only [List.getElem_toArray, List.getElem_cons_zero, List.getElem_cons_succ, Act.put, List.setIfInBounds_toArray, List.set_cons_zero, List.set_cons_succ]
              refine wpAnyH_take (i := 15) (v := ?_) rfl (by kernel_rfl) (by kernel_rfl) (by kernel_rfl) (fun _ _ _ h => h) (Or.inl ⟨by rfl, ?_⟩) (by assumption) ?_
              rotate_left; focus (intro w hSw; (try dsimp only at hSw); go_simp; try (with_reducible rfl); done)
              try simp only [List.getElem_toArray, List.getElem_cons_zero, List.getElem_cons_succ, Act.put, List.setIfInBounds_toArray, List.set_cons_zero, List.set_cons_succ]
              refine wpAnyH_done (by kernel_rfl) ?_ _
              have HST := Lib.hid (HST.out.call HN.out.bel)
              have y0 := bkeep (HN.out.bel) x0
              have y1 := bkeep (HN.out.bel) x1
              have y2 := bkeep (HN.out.bel) x2
              have y3 := bkeep (HN.out.bel) x3
              have t0 := bkeep (HN.out.bel) z0
              have t1 := bkeep (HN.out.bel) z1
              have t2 := bkeep (HN.out.bel) z2
              have t3 := bkeep (HN.out.bel) z3
              clear hHeld x0 x1 x2 x3 z0 z1 z2 z3 HL1 HL2 HN
              by_cases hl : l1 < l2
              · have hlI : (l1 : Int) < l2 := by omega
                have HNR := Lib.hid (HSW.out hl)
                have f0 := Cp.own_free (HST.out.nth 0 rfl).own (k * 4)
                have f1 := Cp.own_free (HST.out.nth 0 rfl).own (k * 4 + 1)
                have f2 := Cp.own_free (HST.out.nth 0 rfl).own (k * 4 + 2)
                have f3 := Cp.own_free (HST.out.nth 0 rfl).own (k * 4 + 3)
                have f4 := Cp.own_free (HST.out.nth 0 rfl).own ((k - 1) * 4)
                have f5 := Cp.own_free (HST.out.nth 0 rfl).own ((k - 1) * 4 + 1)
                have f6 := Cp.own_free (HST.out.nth 0 rfl).own ((k - 1) * 4 + 2)
                have f7 := Cp.own_free (HST.out.nth 0 rfl).own ((k - 1) * 4 + 3)
                have HSA := Lib.hid (St.setOwn4 HOKS.out HST.out k HK1.out v0 v1 v2 v3)
                have HOK2 : ∀ p ∈ N.set k [v0, v1, v2, v3], Dm.Ok4 p := fun p hp => by
                  rcases List.mem_or_eq_of_mem_set hp with h | h
                  · exact HOKS.out p h
                  · rw [h]; exact Cp.ok_of HSI.out _ (by rw [HSD.out]; refine List.mem_iff_getElem.2 ⟨k, by simp [HK1.out], ?_⟩; rw [List.getElem_set_ne (by omega), List.getElem_set_self])
                have HSB := Lib.hid (St.setOwn4 HOK2 HSA.out (k - 1) (by rw [List.length_set]; exact HK2.out) u0 u1 u2 u3)
                rw [← HSD.out] at HSB
                clear HSA HOK2 HSD HNE
                go_wp2_with (fail)
                refine wp_region_held_drew (S := (fun w' => True)) (by kernel_rfl) ?_ (fun hHeld => ?_)
                · (try dsimp only); (first | trivial | skip)

                refine wpAnyH_take (i := 0) (v := ?_) rfl (by kernel_rfl) (by kernel_rfl) (by kernel_rfl) (fun _ _ _ h => h) (Or.inl ⟨by rfl, ?_⟩) (by assumption) ?_
                rotate_left; focus (intro w hSw; (try dsimp only at hSw); go_simp; try (with_reducible rfl); done)
                try simp only [List.getElem_toArray, List.getElem_cons_zero, List.getElem_cons_succ, Act.put, List.setIfInBounds_toArray, List.set_cons_zero, List.set_cons_succ]
                refine wpAnyH_take (i := 1) (v := ?_) rfl (by kernel_rfl) (by kernel_rfl) (by kernel_rfl) (fun _ _ _ h => h) (Or.inl ⟨by rfl, ?_⟩) (by assumption) ?_
                rotate_left; focus (intro w hSw; (try dsimp only at hSw); go_simp; try (with_reducible rfl); done)
                try simp only [List.getElem_toArray, List.getElem_cons_zero, List.getElem_cons_succ, Act.put, List.setIfInBounds_toArray, List.set_cons_zero, List.set_cons_succ]
                refine wpAnyH_take (i := 2) (v := ?_) rfl (by kernel_rfl) (by kernel_rfl) (by kernel_rfl) (fun _ _ _ h => h) (Or.inl ⟨by rfl, ?_⟩) (by assumption) ?_
                rotate_left; focus (intro w hSw; (try dsimp only at hSw); go_simp; try (with_reducible rfl); done)
                try simp only [List.getElem_toArray, List.getElem_cons_zero, List.getElem_cons_succ, Act.put, List.setIfInBounds_toArray, List.set_cons_zero, List.set_cons_succ]
                refine wpAnyH_take (i := 3) (v := ?_) rfl (by kernel_rfl) (by kernel_rfl) (by kernel_rfl) (fun _ _ _ h => h) (Or.inl ⟨by rfl, ?_⟩) (by assumption) ?_
                rotate_left; focus (intro w hSw; (try dsimp only at hSw); go_simp; try (with_reducible rfl); done)
                try simp only [List.getElem_toArray, List.getElem_cons_zero, List.getElem_cons_succ, Act.put, List.setIfInBounds_toArray, List.set_cons_zero, List.set_cons_succ]
                refine wpAnyH_take (i := 4) (v := ?_) rfl (by kernel_rfl) (by kernel_rfl) (by kernel_rfl) (fun _ _ _ h => h) (Or.inl ⟨by rfl, ?_⟩) (by assumption) ?_
                rotate_left; focus (intro w hSw; (try dsimp only at hSw); go_simp; try (with_reducible rfl); done)
                try simp only [List.getElem_toArray, List.getElem_cons_zero, List.getElem_cons_succ, Act.put, List.setIfInBounds_toArray, List.set_cons_zero, List.set_cons_succ]
                refine wpAnyH_take (i := 5) (v := ?_) rfl (by kernel_rfl) (by kernel_rfl) (by kernel_rfl) (fun _ _ _ h => h) (Or.inl ⟨by rfl, ?_⟩) (by assumption) ?_
                rotate_left; focus (intro w hSw; (try dsimp only at hSw); go_simp; try (with_reducible rfl); done)
                try simp only [List.getElem_toArray, List.getElem_cons_zero, List.getElem_cons_succ, Act.put, List.setIfInBounds_toArray, List.set_cons_zero, List.set_cons_succ]
                refine wpAnyH_take (i := 6) (v := ?_) rfl (by kernel_rfl) (by kernel_rfl) (by kernel_rfl) (fun _ _ _ h => h) (Or.inl ⟨by rfl, ?_⟩) (by assumption) ?_
                rotate_left; focus (intro w hSw; (try dsimp only at hSw); go_simp; try (with_reducible rfl); done)
                try simp only [List.getElem_toArray, List.getElem_cons_zero, List.getElem_cons_succ, Act.put, List.setIfInBounds_toArray, List.set_cons_zero, List.set_cons_succ]
                refine wpAnyH_take (i := 7) (v := ?_) rfl (by kernel_rfl) (by kernel_rfl) (by kernel_rfl) (fun _ _ _ h => h) (Or.inl ⟨by rfl, ?_⟩) (by assumption) ?_
                rotate_left; focus (intro w hSw; (try dsimp only at hSw); go_simp; try (with_reducible rfl); done)
                try simp only [List.getElem_toArray, List.getElem_cons_zero, List.getElem_cons_succ, Act.put, List.setIfInBounds_toArray, List.set_cons_zero, List.set_cons_succ]
                refine wpAnyH_take (i := 8) (v := ?_) rfl (by kernel_rfl) (by kernel_rfl) (by kernel_rfl) (fun _ _ _ h => h) (Or.inl ⟨by rfl, ?_⟩) (by assumption) ?_
                rotate_left; focus (intro w hSw; (try dsimp only at hSw); go_simp; try (with_reducible rfl); done)
                try simp only [List.getElem_toArray, List.getElem_cons_zero, List.getElem_cons_succ, Act.put, List.setIfInBounds_toArray, List.set_cons_zero, List.set_cons_succ]
                refine wpAnyH_take (i := 10) (v := ?_) rfl (by kernel_rfl) (by kernel_rfl) (by kernel_rfl) (fun _ _ _ h => h) (Or.inl ⟨by rfl, ?_⟩) (by assumption) ?_
                rotate_left; focus (intro w hSw; (try dsimp only at hSw); go_simp; try (with_reducible rfl); done)
                try simp only [List.getElem_toArray, List.getElem_cons_zero, List.getElem_cons_succ, Act.put, List.setIfInBounds_toArray, List.set_cons_zero, List.set_cons_succ]
                refine wpAnyH_take (i := 11) (v := ?_) rfl (by kernel_rfl) (by kernel_rfl) (by kernel_rfl) (fun _ _ _ h => h) (Or.inl ⟨by rfl, ?_⟩) (by assumption) ?_
                rotate_left; focus (intro w hSw; (try dsimp only at hSw); go_simp; try (with_reducible rfl); done)
                try simp only [List.getElem_toArray, List.getElem_cons_zero, List.getElem_cons_succ, Act.put, List.setIfInBounds_toArray, List.set_cons_zero, List.set_cons_succ]
                refine wpAnyH_take (i := 12) (v := ?_) rfl (by kernel_rfl) (by kernel_rfl) (by kernel_rfl) (fun _ _ _ h => h) (Or.inl ⟨by rfl, ?_⟩) (by assumption) ?_
                rotate_left; focus (intro w hSw; (try dsimp only at hSw); go_simp; try (with_reducible rfl); done)
                try simp only [List.getElem_toArray, List.getElem_cons_zero, List.getElem_cons_succ, Act.put, List.setIfInBounds_toArray, List.set_cons_zero, List.set_cons_succ]
                refine wpAnyH_ready (rs := [9, 13]) (by kernel_rfl) (by simp) ?_
                refine AllReadyH.cons rfl (fun K hK => ?_) (AllReadyH.cons rfl (fun K hK => ?_) (AllReadyH.nil))
                · skip
                  go_simp
                  refine hK.out _ _ ?_ (fun hHeld => ?_)
                  · (try dsimp only); (first | trivial | skip)
                  clear hK K
                  try simp only [List.getElem_toArray, List.getElem_cons_zero, List.getElem_cons_succ, Act.put, List.setIfInBounds_toArray, List.set_cons_zero, List.set_cons_succ]
                  refine wpAnyH_ready (rs := [13]) (by kernel_rfl) (by simp) ?_
                  refine AllReadyH.cons rfl (fun K hK => ?_) (AllReadyH.nil)
                  go_simp
                  refine hK.out _ _ ?_ (fun hHeld => ?_)
                  · (try dsimp only); (first | trivial | skip)
                  clear hK K
                  try simp only [List.getElem_toArray, List.getElem_cons_zero, List.getElem_cons_succ, Act.put, List.setIfInBounds_toArray, List.set_cons_zero, List.set_cons_succ]
                  refine wpAnyH_take (i := 14) (v := ?_) rfl (by kernel_rfl) (by kernel_rfl) (by kernel_rfl) (fun _ _ _ h => h) (Or.inl ⟨by rfl, ?_⟩) (by assumption) ?_
                  rotate_left; focus (intro w hSw; (try dsimp only at hSw); go_simp; try (with_reducible rfl); done)
                  try simp only [List.getElem_toArray, List.getElem_cons_zero, List.getElem_cons_succ, Act.put, List.setIfInBounds_toArray, List.set_cons_zero, List.set_cons_succ]
                  refine wpAnyH_ready (rs := [15]) (by kernel_rfl) (by simp) ?_
                  refine AllReadyH.cons rfl (fun K hK => ?_) AllReadyH.nil
                  go_simp
                  refine hK.out _ _ ?_ (fun hHeld => ?_)
                  · (try dsimp only); (first | trivial | skip)
                  clear hK K
                  try simp only [List.getElem_toArray, List.getElem_cons_zero, List.getElem_cons_succ, Act.put, List.setIfInBounds_toArray, List.set_cons_zero, List.set_cons_succ]
                  refine wpAnyH_take (i := 16) (v := ?_) rfl (by kernel_rfl) (by kernel_rfl) (by kernel_rfl) (fun _ _ _ h => h) (Or.inl ⟨by rfl, ?_⟩) (by assumption) ?_
                  rotate_left; focus (intro w hSw; (try dsimp only at hSw); go_simp; try (with_reducible rfl); done)
                  try simp only [List.getElem_toArray, List.getElem_cons_zero, List.getElem_cons_succ, Act.put, List.setIfInBounds_toArray, List.set_cons_zero, List.set_cons_succ]
                  refine wpAnyH_ready (rs := [17]) (by kernel_rfl) (by simp) ?_
                  refine AllReadyH.cons rfl (fun K hK => ?_) AllReadyH.nil
                  go_simp
                  refine hK.out _ _ ?_ (fun hHeld => ?_)
                  · (try dsimp only); (first | trivial | skip)
                  clear hK K
                  try simp only [List.getElem_toArray, List.getElem_cons_zero, List.getElem_cons_succ, Act.put, List.setIfInBounds_toArray, List.set_cons_zero, List.set_cons_succ]
                  refine wpAnyH_done (by kernel_rfl) ?_ _
                  go_wp2
                  go_roundg (k - 1)
                  case measure => have := HGY.out; omega
                  case rel => exact ⟨k - 1, _, by omega, rfl, by go_num, HSL, HSI, HNR, HSB.out.drew⟩
                · skip
                  go_simp
                  refine hK.out _ _ ?_ (fun hHeld => ?_)
                  · (try dsimp only); (first | trivial | skip)
                  clear hK K
                  try simp only [List.getElem_toArray, List.getElem_cons_zero, List.getElem_cons_succ, Act.put, List.setIfInBounds_toArray, List.set_cons_zero, List.set_cons_succ]
                  refine wpAnyH_ready (rs := [9]) (by kernel_rfl) (by simp) ?_
                  refine AllReadyH.cons rfl (fun K hK => ?_) (AllReadyH.nil)
                  go_simp
                  refine hK.out _ _ ?_ (fun hHeld => ?_)
                  · (try dsimp only); (first | trivial | skip)
                  clear hK K
                  try simp only [List.getElem_toArray, List.getElem_cons_zero, List.getElem_cons_succ, Act.put, List.setIfInBounds_toArray, List.set_cons_zero, List.set_cons_succ]
                  refine wpAnyH_take (i := 14) (v := ?_) rfl (by kernel_rfl) (by kernel_rfl) (by kernel_rfl) (fun _ _ _ h => h) (Or.inl ⟨by rfl, ?_⟩) (by assumption) ?_
                  rotate_left; focus (intro w hSw; (try dsimp only at hSw); go_simp; try (with_reducible rfl); done)
                  try simp only [List.getElem_toArray, List.getElem_cons_zero, List.getElem_cons_succ, Act.put, List.setIfInBounds_toArray, List.set_cons_zero, List.set_cons_succ]
                  refine wpAnyH_ready (rs := [15]) (by kernel_rfl) (by simp) ?_
                  refine AllReadyH.cons rfl (fun K hK => ?_) AllReadyH.nil
                  go_simp
                  refine hK.out _ _ ?_ (fun hHeld => ?_)
                  · (try dsimp only); (first | trivial | skip)
                  clear hK K
                  try simp only [List.getElem_toArray, List.getElem_cons_zero, List.getElem_cons_succ, Act.put, List.setIfInBounds_toArray, List.set_cons_zero, List.set_cons_succ]
                  refine wpAnyH_take (i := 16) (v := ?_) rfl (by kernel_rfl) (by kernel_rfl) (by kernel_rfl) (fun _ _ _ h => h) (Or.inl ⟨by rfl, ?_⟩) (by assumption) ?_
                  rotate_left; focus (intro w hSw; (try dsimp only at hSw); go_simp; try (with_reducible rfl); done)
                  try simp only [List.getElem_toArray, List.getElem_cons_zero, List.getElem_cons_succ, Act.put, List.setIfInBounds_toArray, List.set_cons_zero, List.set_cons_succ]
                  refine wpAnyH_ready (rs := [17]) (by kernel_rfl) (by simp) ?_
                  refine AllReadyH.cons rfl (fun K hK => ?_) AllReadyH.nil
                  go_simp
                  refine hK.out _ _ ?_ (fun hHeld => ?_)
                  · (try dsimp only); (first | trivial | skip)
                  clear hK K
                  try simp only [List.getElem_toArray, List.getElem_cons_zero, List.getElem_cons_succ, Act.put, List.setIfInBounds_toArray, List.set_cons_zero, List.set_cons_succ]
                  refine wpAnyH_done (by kernel_rfl) ?_ _
                  go_wp2
                  go_roundg (k - 1)
                  case measure => have := HGY.out; omega
                  case rel => exact ⟨k - 1, _, by omega, rfl, by go_num, HSL, HSI, HNR, HSB.out.drew⟩
              · have hlI : ¬ (l1 : Int) < l2 := by omega
                have HNR := Lib.hid (HNE.out hl)
                go_wp2
                go_roundg (n - (i + 1))
                case measure => have := HGZ.out; omega
                case rel => exact ⟨i + 1, N, by omega, by omega, by omega, by go_num, HLN, HI, HNR, HST.out⟩
        · have hge : ¬ ((i : Int) < n) := by omega
          have HR := Lib.hid (Cp.ref_eq HI.out (Cp.sorted_of (by rw [HLN.out]; omega) HNR.out))
          go_wp2
          go_ret
          exact ⟨_, rfl, by rw [← HR.out]; exact HST.out⟩
end Go.Proofs.YtlgabpcddldelaaDoor
