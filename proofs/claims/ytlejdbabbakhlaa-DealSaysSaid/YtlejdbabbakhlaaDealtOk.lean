/-
  Dealt of the reference.
-/
import Derived.Test.YtlejdbabbakhlaaDealOk
import Derived.Test.YtlejdbabbakhlaaEncOps
namespace Go.Proofs.Ytlejdbabbakhlaa
set_option linter.unusedVariables false
open Go.ChangeShapes Go.WideShapes Go.ChangeAt Go.RowKit

theorem Trn.ready_step' (l : List Int) {n : Nat} (hn : l.length = n) (k : Nat) (hk : k < n) : ((Trn.ready l).take k ++ List.replicate (n - k) false).set k (decide (0 < l.getD k 0)) = (Trn.ready l).take (k + 1) ++ List.replicate (n - (k + 1)) false := by
  subst hn
  exact Trn.ready_step l k hk

set_option maxRecDepth 100000 in
set_option maxHeartbeats 8000000 in
theorem dealt_ok (last sl bud : Int) (hl0 : -9223372036854775808 ≤ last) (hl1 : last ≤ 9223372036854775807) (hs1 : 1 ≤ sl) (hs2 : sl ≤ 9223372036854775807) (hb0 : 0 ≤ bud) (hb1 : bud ≤ 10000)
    (l : List Int) (v : Value) (w : World) (F : Nat → Prop) (h : ((Enc.int .i64).sl 8).R F w [v] l) (hl : (l.length : Int) ≤ 100) (hg : l.any Trn.bad = false) :
    Calls Try.prog 47 #[.int .i64 last, v, .int .i64 sl, .int .i64 bud] w fun e w' => ∃ vo s', Trn.Ends sl ⟨l, last, bud, []⟩ s' ∧ e = .returned (.tuple #[vo, .int .i64 s'.last]) ∧ Own w' w.heap.size 85 2 vo (s'.out.map shareV) ∧ Below w.heap.size w w' := by
  have H := Lib.hid h
  have hgood : Trn.Good l.length sl ⟨l, last, bud, []⟩ := ⟨rfl, fun x hx => Trn.bad_no hg x hx, hb0, by simpa using hb1, hl0, hl1⟩
  clear h hg
  go_enter Try.func47, Try.ntmps47
  go_wp2_with (first
    | (at_builtin; refine St.appSl intE rfl _ _ rfl rfl ((St.init w).nilOwn _ _) rfl H.out rfl (Value.int .i64) (fun w cs a h => h.1) (fun a q hq => by simp [Value.cells] at hq; subst hq; rfl) (by simp; omega) (by simp; omega) ?_; intro vl w1 hst))
  simp only [List.nil_append] at hst
  obtain ⟨al, cl, rfl⟩ := hst.own.isSliceLen
  rw [List.length_map] at hst ⊢
  go_loopw [0, 3, 11, 12, 13, 14, 15] (fun la bu ou _ _ _ _ wr => ∃ (k : Nat) (s : Trn.St), s = Trn.run sl ⟨l, last, bud, []⟩ k ∧ (∀ j, j < k → ¬ Trn.Stops (Trn.run sl ⟨l, last, bud, []⟩ j)) ∧ Trn.Good l.length sl s ∧ la = .int .i64 s.last ∧ bu = .int .i64 s.budget ∧
      St w wr [aOwn 3 1 (.slice al l.length cl) (s.left.map (Value.int .i64)), aOwn 85 2 ou (s.out.map shareV)]) (fun _ bu _ _ _ _ _ _ => (intOf bu).toNat)
  case atStart => exact ⟨0, _, (Trn.run_zero _ _).symm, fun j hj => absurd hj (Nat.not_lt_zero _), hgood, rfl, rfl, ((hst.nilOwn _ _).get2)⟩
  case round =>
    clear hst hgood H
    obtain ⟨k, s, hs, hns, hgood, rfl, rfl, hst⟩ := hrel
    obtain ⟨ao2, cap2, rfl⟩ := hst.get2.own.isSliceLen
    rw [List.length_map] at hst ⊢
    have HS := Lib.hid hs; have HN := Lib.hid hns
    clear hs hns
    obtain ⟨hlen, hleft, hbu0, hbu1, hla0, hla1⟩ := id hgood
    have HGD := Lib.hid hgood
    have HLEN := Lib.hid hlen; have HLEFT := Lib.hid hleft
    clear hgood hlen hleft
    by_cases hbud : 0 < s.budget
    · have hbd : decide (0 < s.budget) = true := decide_eq_true hbud
      go_wp2_with (refine St.make rfl (.tmp 21) rfl Try.underlying74 (bytes := 1) (z := .bool false) (by kernel_rfl) rfl hst l.length rfl (by omega) (by decide) ?_; intro gR w2 hst2; clear hst)
      obtain ⟨wo, rfl⟩ : ∃ wo : World, wo = w2 := ⟨_, rfl⟩
      go_loopw [13] (fun i wr => ∃ k : Nat, k ≤ l.length ∧ i = .int .i64 k ∧ St w wr [aOwn 4 1 (.slice (some ⟨gR, 0, none⟩) l.length l.length) (((Trn.ready s.left).take k ++ List.replicate (l.length - k) false).map Value.bool), aOwn 3 1 (.slice al l.length cl) (s.left.map (Value.int .i64)), aOwn 85 2 (.slice ao2 s.out.length cap2) (s.out.map shareV)]) (fun i _ => l.length - (intOf i).toNat)
      case atStart => exact ⟨0, by omega, rfl, by simpa using hst2⟩
      case round =>
        clear hst2
        obtain ⟨k2, hk2, rfl, hst⟩ := hrel
        by_cases hlt : k2 < l.length
        · obtain ⟨gl, rfl⟩ := hst.get2.own.addr (by rw [List.length_map, HLEN.out]; omega)
          have hc := (hst.get2.cellOwn (fun _ => rfl) k2 (by rw [HLEN.out]; omega) 0).1
          obtain ⟨hd, hf⟩ := hst.cellOwn (fun _ => rfl) k2 (by simp [Trn.ready_len, HLEN.out]; omega) false
          have hst2 := hst.setOwn (f := Value.bool) (fun _ => rfl) k2 (decide (0 < s.left.getD k2 0))
          rw [Trn.ready_step' s.left HLEN.out k2 hlt] at hst2
          generalize ((Trn.ready s.left).take k2 ++ List.replicate (l.length - k2) false).getD k2 false = dd at hd
          generalize s.left.getD k2 0 = x at hc hst2
          clear hst
          go_wp2
          go_roundw
          case rel => exact ⟨k2 + 1, by omega, by go_num, hst2⟩
          case measure => simp [intOf]; omega
        · obtain rfl : k2 = l.length := by omega
          rw [List.take_of_length_le (by rw [Trn.ready_len, HLEN.out]; exact Nat.le_refl _), Nat.sub_self, List.replicate_zero, List.append_nil] at hst
          clear hlt hk2
          have hready := hst.own.slBool
          rcases Trn.who_in (by omega) HGD.out with hw | ⟨k0, hk0, hw, hx⟩
          · have hw2 := hw
            rw [Trn.who_def, ← Trn.ready_len] at hw2
            have HW := Lib.hid hw; have HW2 := Lib.hid hw2
            clear hw hw2
            go_wp2_with (go_at_call 43; refine (rturn_any s.last hla0 hla1 (Trn.ready s.left) (by rw [Trn.ready_len, HLEN.out]; omega) _ _ hready).mono ?_; rintro e w9 ⟨rfl, rfl⟩; rw [HW2.out])
            exact bodyPost_ret (v := .tuple #[.slice ao2 s.out.length cap2, .int .i64 s.last]) (by simp [results, Try.results47, go_sem]) rfl ⟨_, s, ⟨k, HS.out, .inr (by rw [HW.out]; omega), HN.out⟩, rfl, by have := hst.get3.own; exact this, hst.bel⟩
          · have hw2 := hw
            have hk1 : k0 < l.length := by rw [← HLEN.out]; exact hk0
            rw [Trn.who_def, ← Trn.ready_len] at hw2
            obtain ⟨gl, rfl⟩ := hst.get2.own.addr (by simp; omega)
            have hc := (hst.get2.cellOwn (fun _ => rfl) k0 hk0 0).1
            have hf1 := (hst.get2.cellOwn (fun _ => rfl) k0 hk0 0).2
            have hsz := Trn.size_in HGD.out hs1 hbud k0 hk0 hw hx
            rw [Trn.size_def sl k0 hw] at hsz
            have hst2 := (hst.get2.setOwn (f := Value.int .i64) (fun _ => rfl) k0 (s.left.getD k0 0 - min (min (s.left.getD k0 0) sl) s.budget)).get2.drop.get2
            have hmin := fun (W : World) ts t => run_min_int3 (P := Try.prog) (w := W) ts t .i64 .i64 .i64 (s.left.getD k0 0) sl s.budget
            rw [← Trn.min3] at hmin
            rw [← Trn.size_def sl k0 hw] at hmin hsz hst2
            generalize hNN : Trn.size sl s = N at hmin hsz hst2
            have HNN := Lib.hid hNN; clear hNN
            obtain ⟨hz1, hz2, hz3⟩ := hsz
            generalize hxx : s.left.getD k0 0 = x at *
            have hx1 := HLEFT.out x (by rw [← hxx]; simp [List.getD, hk0])
            have HW := Lib.hid hw; have HW2 := Lib.hid hw2; have HXX := Lib.hid hxx
            clear hw hw2 hxx hst
            go_wp2_with (first
              | (go_at_call 43; refine (rturn_any s.last hla0 hla1 (Trn.ready s.left) (by rw [Trn.ready_len, HLEN.out]; omega) _ _ hready).mono ?_; rintro e w9 ⟨rfl, rfl⟩; rw [HW2.out])
              | (at_builtin; refine St.app1n shareE rfl (.tmp 61) (.tmp 65) rfl rfl hst2 (shareV ((k0 : Int), N)) rfl _ 1 rfl (by simp) rfl (by intro q hq; simp [shareV, Value.cells] at hq; rcases hq with rfl | rfl <;> rfl) (by rw [List.length_map]; unfold maxLen; omega) (by rw [List.length_map]; omega) ?_; intro g3 n3 cap3 w3 hst3))
            clear hst2
            go_roundw
            case rel => exact ⟨k + 1, Trn.next sl s, by rw [Trn.run_succ, HS.out], fun j hj => by
                by_cases e : j = k
                · rw [e, ← HS.out]; unfold Trn.Stops; rw [HW.out]; omega
                · exact HN.out j (by omega), Trn.next_good (by omega) HGD.out hs1 hbud k0 hk0 HW.out (by rw [HXX.out]; omega), by rw [Trn.next_eq k0 HW.out], by rw [Trn.next_eq k0 HW.out, HNN.out], by
                rw [Trn.next_eq k0 HW.out, HNN.out, HXX.out]
                simp only [List.map_append, List.map_cons, List.map_nil]
                exact hst3.get2⟩
            case measure => simp [intOf]; omega
    · have hbd : decide (0 < s.budget) = false := decide_eq_false hbud
      go_wp2
      exact bodyPost_ret (v := .tuple #[.slice ao2 s.out.length cap2, .int .i64 s.last]) (by simp [results, Try.results47, go_sem]) rfl ⟨_, s, ⟨k, HS.out, .inl (by omega), HN.out⟩, rfl, by have := hst.get2.own; exact this, hst.bel⟩
end Go.Proofs.Ytlejdbabbakhlaa
