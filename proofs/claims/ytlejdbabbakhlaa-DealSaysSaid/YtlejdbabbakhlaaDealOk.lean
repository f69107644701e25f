/-
  Deal where it does not refuse.
-/
import Derived.Test.YtlejdbabbakhlaaDealBad
import Derived.Test.YtlejdbabbakhlaaDealt
import Derived.Test.YtlejdbabbakhlaaMakeB
import Derived.Test.YtlejdbabbakhlaaSep
import Derived.Test.YtlejdbabbakhlaaClone
namespace Go.Proofs.Ytlejdbabbakhlaa
open Go.ChangeShapes Go.WideShapes Go.ChangeAt Go.RowKit

def shareV (p : Int × Int) : Value := .agg #[.int .i64 p.1, .int .i64 p.2]

theorem Own.isSliceLen {w : World} {B : Nat} {e : TypeId} {size : Nat} {v : Value} {xs : List Value} (h : Own w B e size v xs) : ∃ ao cap, v = .slice ao xs.length cap := by
  rcases h.shape with ⟨h1, h2⟩ | ⟨g, cap, h1, _⟩
  · exact ⟨none, 0, by rw [h1, h2]; rfl⟩
  · exact ⟨_, _, h1⟩

theorem Trn.ready_step (l : List Int) (k : Nat) (hk : k < l.length) : ((Trn.ready l).take k ++ List.replicate (l.length - k) false).set k (decide (0 < l.getD k 0)) = (Trn.ready l).take (k + 1) ++ List.replicate (l.length - (k + 1)) false := by
  have hl := Trn.ready_len l
  have hr : (Trn.ready l)[k]? = some (decide (0 < l.getD k 0)) := by simp [Trn.ready, hk, List.getD]
  rw [show l.length - k = l.length - (k + 1) + 1 by omega, List.replicate_succ, List.set_append_right _ _ (by simp; omega), List.length_take, Nat.min_eq_left (by omega), Nat.sub_self, List.set_cons_zero, List.take_add_one, hr]
  simp

theorem Trn.min3 (x y z : Int) : min (min x y) z = if z < (if y < x then y else x) then z else (if y < x then y else x) := by
  have e : (if y < x then y else x) = min x y := by by_cases h : y < x <;> simp [h] <;> omega
  rw [e]
  by_cases h : z < min x y <;> simp only [h, if_true, if_false] <;> omega
theorem Trn.dec_sub (x N : Int) : decide (0 < x - N) = decide (N < x) := by rw [decide_eq_decide]; omega
theorem shareE : ET Try.prog 76 85 2 16 := ET.mk' Try.underlying76 (z := .agg #[.int .i64 0, .int .i64 0]) (by kernel_rfl) rfl (by decide)

set_option maxRecDepth 100000 in
set_option maxHeartbeats 8000000 in
theorem deal_ok (last sl bud : Int) (hl0 : -9223372036854775808 ≤ last) (hl1 : last ≤ 9223372036854775807) (hs1 : 1 ≤ sl) (hs2 : sl ≤ 9223372036854775807) (hb0 : 0 ≤ bud) (hb1 : bud ≤ 10000)
    (l : List Int) (v : Value) (w : World) (h : Sl w 1 (RInt .i64) v l) (hl : (l.length : Int) ≤ 100) (hg : l.any Trn.bad = false) :
    Calls Try.prog 44 #[.int .i64 last, v, .int .i64 sl, .int .i64 bud] w fun e w' => ∃ vo s', Trn.Ends sl ⟨l, last, bud, []⟩ s' ∧ e = .returned (.tuple #[vo, .int .i64 s'.last, .int .i64 0]) ∧ Own w' w.heap.size 85 2 vo (s'.out.map shareV) ∧ Below w.heap.size w w' := by
  have H := Lib.hid h
  obtain ⟨ao, b, off, cap, rfl, hx⟩ := slInts h
  clear hx
  have h1 : decide ((100 : Int) < l.length) = false := by rw [decide_eq_false_iff_not]; omega
  have h2 : decide (10000 < bud) = false := by rw [decide_eq_false_iff_not]; omega
  have h3 : decide (sl < 1) = false := by rw [decide_eq_false_iff_not]; omega
  have h4 : decide (bud < 0) = false := by rw [decide_eq_false_iff_not]; omega
  have hgood : Trn.Good l.length sl ⟨l, last, bud, []⟩ := ⟨rfl, fun x hx => Trn.bad_no hg x hx, hb0, by simpa using hb1, hl0, hl1⟩
  have HG := Lib.hid hg
  clear h hg
  go_enter Try.func44, Try.ntmps44
  go_wp2_with (first
    | (go_at_call 45; refine (contA_any l _ _ H.out hl).mono ?_; rintro e w9 ⟨rfl, rfl⟩; rw [HG.out])
    | (go_at_call 56; refine (clone_any (l := l) _ H.out (by omega)).mono ?_; rintro e w2 ⟨vl, rfl, hown, hb2⟩; obtain ⟨al, cl, rfl⟩ := hown.isSliceLen; rw [List.length_map] at hown ⊢)
    | (refine makeBools rfl (.tmp 40) rfl Try.underlying74 (by kernel_rfl) l.length rfl (by omega) ?_))
  have hst := (((St.init w).pushOwn hb2 hown).push ((Below.refl _ _).alloc (Nat.le_refl _) _) (A := aOwn 4 1 (.slice (some ⟨w2.heap.size, 0, none⟩) l.length l.length) ((List.replicate l.length false).map Value.bool)) (own_made w2 4 l.length (by unfold maxLen; omega)).zero (fun b hb => by simp [aOwn, Value.ownBlock] at hb; subst hb; simp) (by simp [aOwn, Value.ownBlock]))
  generalize w2.heap.size = R at *
  generalize w2.alloc (.cells (madeCells #[.bool false] l.length) 4) = W3 at *
  clear hown hb2
  go_loopw [13, 14, 44] (fun _ _ i wr => ∃ k : Nat, k ≤ l.length ∧ i = .int .i64 k ∧ St w wr [aOwn 4 1 (.slice (some ⟨R, 0, none⟩) l.length l.length) (((Trn.ready l).take k ++ List.replicate (l.length - k) false).map Value.bool), aOwn 3 1 (.slice al l.length cl) (l.map (Value.int .i64))]) (fun _ _ i _ => l.length - (intOf i).toNat)
  case atStart => exact ⟨0, by omega, rfl, hst⟩
  case round =>
    clear hst
    obtain ⟨k, hk, rfl, hst⟩ := hrel
    by_cases hlt : k < l.length
    · obtain ⟨gl, rfl⟩ := hst.get2.own.addr (by simp; omega)
      have hc := (hst.get2.cellOwn (fun _ => rfl) k hlt 0).1
      obtain ⟨hd, hf⟩ := hst.cellOwn (fun _ => rfl) k (by simp [Trn.ready_len]; omega) false
      have hst2 := hst.setOwn (f := Value.bool) (fun _ => rfl) k (decide (0 < l.getD k 0))
      rw [Trn.ready_step l k hlt] at hst2
      generalize ((Trn.ready l).take k ++ List.replicate (l.length - k) false).getD k false = dd at hd
      generalize l.getD k 0 = x at hc hst2
      clear hst
      go_wp2
      go_roundw
      case rel => exact ⟨k + 1, by omega, by go_num, hst2⟩
      case measure => simp [intOf]; omega
    · obtain rfl : k = l.length := by omega
      rw [List.take_of_length_le (by rw [Trn.ready_len]; exact Nat.le_refl _), Nat.sub_self, List.replicate_zero, List.append_nil] at hst
      clear h1 h2 h3 h4 hlt
      go_wp2
      go_loopw [0, 3, 15, 16, 17] (fun la bu ou _ _ wr => ∃ (k : Nat) (s : Trn.St), s = Trn.run sl ⟨l, last, bud, []⟩ k ∧ (∀ j, j < k → ¬ Trn.Stops (Trn.run sl ⟨l, last, bud, []⟩ j)) ∧ Trn.Good l.length sl s ∧ la = .int .i64 s.last ∧ bu = .int .i64 s.budget ∧
          St w wr [aOwn 4 1 (.slice (some ⟨R, 0, none⟩) l.length l.length) ((Trn.ready s.left).map Value.bool), aOwn 3 1 (.slice al l.length cl) (s.left.map (Value.int .i64)), aOwn 85 2 ou (s.out.map shareV)]) (fun _ bu _ _ _ _ => (intOf bu).toNat)
      case atStart => exact ⟨0, _, (Trn.run_zero _ _).symm, fun j hj => absurd hj (Nat.not_lt_zero _), hgood, rfl, rfl, ((hst.nilOwn _ _).get3.get3)⟩
      case round =>
        clear hst hgood hk
        obtain ⟨k, s, hs, hns, hgood, rfl, rfl, hst⟩ := hrel
        obtain ⟨ao2, cap2, rfl⟩ := hst.get3.own.isSliceLen
        rw [List.length_map] at hst ⊢
        have HS := Lib.hid hs; have HN := Lib.hid hns
        clear hs hns
        obtain ⟨hlen, hleft, hbu0, hbu1, hla0, hla1⟩ := id hgood
        have HGD := Lib.hid hgood
        have HLEN := Lib.hid hlen; have HLEFT := Lib.hid hleft
        clear hgood hlen hleft
        have hready := hst.own.slBool
        by_cases hbud : 0 < s.budget
        · have hbd : decide (0 < s.budget) = true := decide_eq_true hbud
          rcases Trn.who_in (by omega) HGD.out with hw | ⟨k0, hk0, hw, hx⟩
          · have hw2 := hw
            rw [Trn.who_def, ← Trn.ready_len] at hw2
            have HW := Lib.hid hw; have HW2 := Lib.hid hw2
            clear hw hw2
            go_wp2_with (go_at_call 42; refine (turn_any s.last hla0 hla1 (Trn.ready s.left) (by rw [Trn.ready_len, HLEN.out]; omega) _ _ hready).mono ?_; rintro e w9 ⟨rfl, rfl⟩; rw [HW2.out])
            exact bodyPost_ret (v := .tuple #[.slice ao2 s.out.length cap2, .int .i64 s.last, .int .i64 0]) (by simp [results, Try.results44, go_sem]) rfl ⟨_, s, ⟨k, HS.out, .inr (by rw [HW.out]; omega), HN.out⟩, rfl, by have := hst.get3.own; exact this, hst.bel⟩
          · have hw2 := hw
            have hk1 : k0 < l.length := by rw [← HLEN.out]; exact hk0
            rw [Trn.who_def, ← Trn.ready_len] at hw2
            obtain ⟨gl, rfl⟩ := hst.get2.own.addr (by simp; omega)
            have hc := (hst.get2.cellOwn (fun _ => rfl) k0 hk0 0).1
            have hf1 := (hst.get2.cellOwn (fun _ => rfl) k0 hk0 0).2
            have hsz := Trn.size_in HGD.out hs1 hbud k0 hk0 hw hx
            rw [Trn.size_def sl k0 hw] at hsz
            have hstA := hst.get2.setOwn (f := Value.int .i64) (fun _ => rfl) k0 (s.left.getD k0 0 - min (min (s.left.getD k0 0) sl) s.budget)
            obtain ⟨hd, hf⟩ := hstA.get2.cellOwn (fun _ => rfl) k0 (by rw [Trn.ready_len]; omega) false
            have hst2 := (hstA.get2.setOwn (f := Value.bool) (fun _ => rfl) k0 (decide (min (min (s.left.getD k0 0) sl) s.budget < s.left.getD k0 0))).get3
            clear hstA
            have hmin := fun (W : World) ts t => run_min_int3 (P := Try.prog) (w := W) ts t .i64 .i64 .i64 (s.left.getD k0 0) sl s.budget
            rw [← Trn.min3] at hmin
            rw [← Trn.size_def sl k0 hw] at hmin hsz hst2 hd hf
            generalize hNN : Trn.size sl s = N at hmin hsz hst2 hd hf
            have HNN := Lib.hid hNN; clear hNN
            obtain ⟨hz1, hz2, hz3⟩ := hsz
            generalize ((Trn.ready s.left).getD k0 false) = dd at hd
            generalize hxx : s.left.getD k0 0 = x at *
            have hx1 := HLEFT.out x (by rw [← hxx]; simp [List.getD, hk0])
            have HW := Lib.hid hw; have HW2 := Lib.hid hw2; have HXX := Lib.hid hxx
            clear hw hw2 hxx hst
            go_wp2_with (first
              | (go_at_call 42; refine (turn_any s.last hla0 hla1 (Trn.ready s.left) (by rw [Trn.ready_len, HLEN.out]; omega) _ _ hready).mono ?_; rintro e w9 ⟨rfl, rfl⟩; rw [HW2.out])
              | (at_builtin; refine St.app1n shareE rfl (.tmp 87) (.tmp 91) rfl rfl hst2 (shareV ((k0 : Int), N)) rfl _ 1 rfl (by simp) rfl (by intro q hq; simp [shareV, Value.cells] at hq; rcases hq with rfl | rfl <;> rfl) (by rw [List.length_map]; unfold maxLen; omega) (by rw [List.length_map]; omega) ?_; intro g3 n3 cap3 w3 hst3))
            clear hst2
            go_roundw
            case rel => exact ⟨k + 1, Trn.next sl s, by rw [Trn.run_succ, HS.out], fun j hj => by
                by_cases e : j = k
                · rw [e, ← HS.out]; unfold Trn.Stops; rw [HW.out]; omega
                · exact HN.out j (by omega), Trn.next_good (by omega) HGD.out hs1 hbud k0 hk0 HW.out (by rw [HXX.out]; omega), by rw [Trn.next_eq k0 HW.out], by rw [Trn.next_eq k0 HW.out, HNN.out], by
                rw [Trn.next_eq k0 HW.out, HNN.out, HXX.out]
                simp only [Trn.ready_set, List.map_append, List.map_cons, List.map_nil]
                rw [Trn.dec_sub]
                exact hst3.get3.get3⟩
            case measure => simp [intOf]; omega
        · have hbd : decide (0 < s.budget) = false := decide_eq_false hbud
          go_wp2
          exact bodyPost_ret (v := .tuple #[.slice ao2 s.out.length cap2, .int .i64 s.last, .int .i64 0]) (by simp [results, Try.results44, go_sem]) rfl ⟨_, s, ⟨k, HS.out, .inl (by omega), HN.out⟩, rfl, by have := hst.get3.own; exact this, hst.bel⟩
end Go.Proofs.Ytlejdbabbakhlaa
