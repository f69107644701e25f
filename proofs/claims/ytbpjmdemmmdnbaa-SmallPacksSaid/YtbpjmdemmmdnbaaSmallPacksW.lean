/-
  The walk of the law SmallPacks.
-/
import Derived.Test.YtbpjmdemmmdnbaaPkRef
import Derived.Test.YtbpjmdemmmdnbaaPkSame
namespace Go.Proofs.Ytbpjmdemmmdnbaa
set_option linter.unusedVariables false
set_option linter.unusedSimpArgs false
open Go.ChangeShapes Go.WideShapes Go.ChangeAt Go.RowKit

theorem Sl.row1 {w : World} {v : Value} {l : List Int} (h : Sl w 1 (RInt .i64) v l) (hl : (l.length : Int) ≤ 140737488355328) : Row1 Ll.iV 0 w v l := by
  obtain ⟨a, b, o, c, hv, -, -, h3, h4, -⟩ := slInts h
  exact ⟨a, b, o, c, hv, hl, fun hp => (h3 hp).1, fun k hk => h4 k hk⟩
theorem Pk.zeros : (Try.zeroCells36).toList = (List.replicate 256 (0 : Int)).map (Value.int .u8) ++ [.slice none 0 0, .slice none 0 0] := by kernel_rfl
theorem Pk.rows_row {w : World} {q : List (Ll.SV × List Int)} {R : List (List Int)} (hq : q.map Prod.snd = R) (hR : ∀ r ∈ R, (r.length : Int) ≤ 140737488355328) (hok : ∀ x ∈ q, (Pk.aRow x).ok w) :
    ∀ k, k < R.length → Row1 Ll.iV 0 w (Ll.slV ((q.map Prod.fst).getD k (none, 0, 0))) (R.getD k []) := by
  intro k hk
  have hl : k < q.length := by have := congrArg List.length hq; rw [List.length_map] at this; omega
  have e1 : (q.map Prod.fst).getD k (none, 0, 0) = q[k].1 := by simp [List.getD, List.getElem?_eq_getElem hl]
  have e2 : R.getD k [] = q[k].2 := by rw [← hq]; simp [List.getD, List.getElem?_eq_getElem hl]
  rw [e1, e2]
  exact Own.row1 (f := Ll.iV) (fun _ => rfl) 0 (hok _ (List.getElem_mem hl)) (hR _ (by rw [← hq]; exact List.mem_map.2 ⟨_, List.getElem_mem hl, rfl⟩))

theorem pkSame_of {W : World} {B1 B2 B3 n : Nat} {gn gn2 : Nat} {vt v1 : Value} (of : List Int) (hof : of.length = 256) (nx : List (List Int)) (tags : List Int) (q q2 : List (Ll.SV × List Int))
    (n1 : Own W B1 23 1 (.slice (some ⟨gn, 0, none⟩) n n) ((q.map Prod.fst).map Ll.slV)) (a1 : ∀ x ∈ q, (Pk.aRow x).ok W) (n2 : Own W B2 23 1 (.slice (some ⟨gn2, 0, none⟩) n n) ((q2.map Prod.fst).map Ll.slV)) (a2 : ∀ x ∈ q2, (Pk.aRow x).ok W)
    (tt : Own W B3 3 1 vt (tags.map (Value.int .i64))) (ts : Sl W 1 (RInt .i64) v1 tags) (hq1 : q.map Prod.snd = nx) (hq2 : q2.map Prod.snd = nx) (hrl : ∀ r ∈ nx, r.length ≤ 256) (hn : nx.length ≤ 200) (ht : tags.length ≤ 200) :
    Calls Try.prog 13 #[.agg (Pk.outA of (.slice (some ⟨gn, 0, none⟩) n n) vt), .agg (Pk.outA of (.slice (some ⟨gn2, 0, none⟩) n n) v1)] W fun e w' => e = .returned (.bool true) ∧ Below W.heap.size W w' := by
  have l1 : (q.map Prod.fst).length = nx.length := by rw [← hq1]; simp
  have l2 : (q2.map Prod.fst).length = nx.length := by rw [← hq2]; simp
  exact samePacked_any of hof _ _ _ _ _ _ (q.map Prod.fst) (q2.map Prod.fst) nx tags W rfl rfl (Own.row1 (f := Ll.slV) (fun _ => rfl) (none, 0, 0) n1 (by rw [l1]; omega)) (Own.row1 (f := Ll.slV) (fun _ => rfl) (none, 0, 0) n2 (by rw [l2]; omega)) l1 l2
    (fun k hk => ⟨Pk.rows_row hq1 (fun r hr => by have := hrl r hr; omega) a1 k hk, Pk.rows_row hq2 (fun r hr => by have := hrl r hr; omega) a2 k hk⟩) (Own.row1 (f := Ll.iV) (fun _ => rfl) 0 tt (by omega)) (Sl.row1 ts (by omega))

set_option maxRecDepth 100000 in
set_option maxHeartbeats 4000000 in
theorem smallPacks_bad (v : Value) (rows : List (List Int)) (tags : List Int) (w : World) (hd : DfaAt w v rows tags) (he : Aut.err rows tags ≠ 0) :
    Calls Try.prog 4 #[v] w fun e w' => e = .returned (.bool true) ∧ Below w.heap.size w w' := by
  obtain ⟨v0, v1, rfl, -, -⟩ := id hd
  have HP := Lib.hid (fun (w' : World) (hb : Below w.heap.size w w') => pack_bad _ rows tags w' (hd.below hb) he)
  have HR := Lib.hid (fun (w' : World) (hb : Below w.heap.size w w') => rdfa_any _ rows tags w' (hd.below hb))
  have HSM := Lib.hid (fun (w' : World) => samePacked_any (List.replicate 256 0) (by simp) Try.zeroCells36 Try.zeroCells36 (.slice none 0 0) (.slice none 0 0) (.slice none 0 0) (.slice none 0 0) [] [] [] [] w' Pk.zeros Pk.zeros Row1.nil Row1.nil rfl rfl (fun k hk => by simp at hk) Row1.nil Row1.nil)
  generalize Aut.err rows tags = E at *
  have hE : (E != 0) = true := by rw [bne_iff_ne]; exact he
  have hEE : (E == E) = true := beq_self_eq_true _
  have HZ := Lib.hid (show (Try.zeroCells36).size = 258 by kernel_rfl)
  have H1 := Lib.hid (show (Try.zeroCells36).all (·.oneCell') = true by kernel_rfl)
  clear hd he
  have HST := Lib.hid ((St.init w).alloc #[v0, v1] 25)
  go_enter Try.func4, Try.ntmps4
  go_wp2_with (fail)
  go_at_call 12
  refine (HP.out _ HST.out.bel).mono ?_
  rintro e w1 ⟨rfl, hb1⟩
  have HST := Lib.hid ((HST.out.call hb1).alloc Try.zeroCells36 36)
  clear hb1 HP
  go_wp2_with (refine St.rowOp rfl 36 (.tmp 3) (.tmp 9) rfl w1.heap.size _ rfl rfl HST.out (by rw [HZ.out]; exact pkInfo) rfl H1.out ?_; intro w2 hst2; obtain ⟨x0, x1⟩ := hst2.at2 1 rfl; have HST2 := Lib.hid hst2; clear hst2 HST)
  generalize w1.heap.size = g3 at *
  go_at_call 10
  refine (HR.out _ HST2.out.bel).mono ?_
  rintro e w3 ⟨rfl, hb3⟩
  have HST3 := Lib.hid (HST2.out.call hb3)
  clear hb3 HR HST2 x0 x1
  go_wp2_with (fail)
  refine wp_load_row 36 (.tmp 3) rfl g3 rfl 36 _ (0, 0) _ (HST3.out.heapAt 0 rfl) Try.underlying36 rfl (by rw [HZ.out]; exact pkInfo) ?_
  go_wp2_with (fail)
  go_at_call 13
  refine (HSM.out _).mono ?_
  rintro e w4 ⟨rfl, hb4⟩
  have HST4 := Lib.hid (HST3.out.call hb4)
  clear hb4 HSM HST3
  go_wp2
  go_ret
  exact ⟨rfl, HST4.out.bel⟩

set_option maxRecDepth 100000 in
set_option maxHeartbeats 4000000 in
theorem smallPacks_ok (v : Value) (rows : List (List Int)) (tags : List Int) (w : World) (hd : DfaAt w v rows tags) (he : Aut.err rows tags = 0) :
    Calls Try.prog 4 #[v] w fun e w' => e = .returned (.bool true) ∧ Below w.heap.size w w' := by
  obtain ⟨v0, v1, rfl, hr, ht⟩ := id hd
  have HP := Lib.hid (fun (w' : World) (hb : Below w.heap.size w w') => pack_ok _ rows tags w' (hd.below hb) he)
  have HR := Lib.hid (fun (w' : World) (hb : Below w.heap.size w w') => rdfa_any _ rows tags w' (hd.below hb))
  have HQ := Lib.hid (fun (w' : World) (hb : Below w.heap.size w w') => rpacked_ok _ rows tags w' (hd.below hb) he v0 v1 rfl)
  have HT := Lib.hid (fun (w' : World) (hb : Below w.heap.size w w') => (ht.call hb (fun _ _ h => h)))
  obtain ⟨h200, hpos, htl, -⟩ := Aut.err_good rows tags he
  rw [he] at HR
  have hof := Pk.ofP_len (rows := rows) (Nat.le_refl 256)
  have hfl := (Pk.run_len rows 256).1
  have hnl := Pk.nx_len rows (Pk.run rows 256).1
  have HRL := Lib.hid (Pk.nx_row_len (rows := rows) (fs := (Pk.run rows 256).1))
  have HSZ := Lib.hid (show ∀ x y, (Pk.outA (Pk.ofP rows 256) x y).size = 258 from fun x y => Pk.outA_size hof)
  have H200 := Lib.hid h200; have HTL := Lib.hid htl; have HOF := Lib.hid hof; have HFL := Lib.hid hfl; have HNL := Lib.hid hnl
  obtain ⟨of, hofe⟩ : ∃ of, Pk.ofP rows 256 = of := ⟨_, rfl⟩
  obtain ⟨nx, hnxe⟩ : ∃ nx, Pk.nx rows (Pk.run rows 256).1 = nx := ⟨_, rfl⟩
  unfold RetPk at HP
  unfold RetPr at HQ
  rw [hofe] at HP HQ HSZ HOF
  rw [hnxe] at HP HQ HRL HNL
  have HZ := Lib.hid (show (Try.zeroCells36).size = 258 by kernel_rfl)
  clear hd he hr ht hof hfl hnl h200 htl hpos hofe hnxe
  have HST := Lib.hid ((St.init w).alloc #[v0, v1] 25)
  go_enter Try.func4, Try.ntmps4
  go_wp2_with (fail)
  go_at_call 12
  refine (HP.out _ HST.out.bel).mono ?_
  rintro e w1 ⟨gn, vt, q, rfl, HQ1, hst1⟩
  obtain ⟨at1, ct, hvt⟩ := (hst1.nth 2 rfl).own.isLen
  rw [List.length_map] at hvt
  subst hvt
  have HST := Lib.hid ((HST.out.join hst1).alloc Try.zeroCells36 36)
  clear hst1 HP
  generalize hnt : tags.length = nt at *
  have HNT := Lib.hid hnt
  clear hnt
  go_wp2_with (refine St.rowOp rfl 36 (.tmp 3) (.tmp 9) rfl w1.heap.size (Pk.outA of (.slice (some ⟨gn, 0, none⟩) rows.length rows.length) (.slice at1 nt ct)) rfl rfl HST.out (by rw [HSZ.out]; exact pkInfo) (by rw [HSZ.out, HZ.out]) (Pk.outA_one _ _ _ rfl rfl) ?_; intro w2 hst2; obtain ⟨x0, x1⟩ := hst2.at2 4 rfl; have HST2 := Lib.hid hst2; clear hst2 HST)
  generalize w1.heap.size = g3 at *
  go_at_call 10
  refine (HR.out _ HST2.out.bel).mono ?_
  rintro e w3 ⟨rfl, hb3⟩
  have HST3 := Lib.hid (HST2.out.call hb3).drew
  clear hb3 HR HST2 x0 x1
  obtain ⟨x0, x1⟩ := HST3.out.at2 4 rfl
  have k3 := HST3.out.heapAt 0 rfl
  go_wp2_with (fail)
  refine wp_region_held_drew (S := (fun w' => w'.rangeAt g3 0 (Pk.outA of (.slice (some ⟨gn, 0, none⟩) rows.length rows.length) (.slice at1 nt ct)).toList ∧ w'.cell? ⟨w.heap.size, 0, none⟩ = some v0 ∧ w'.cell? ⟨w.heap.size, 1, none⟩ = some v1)) (by kernel_rfl) ?_ (fun hHeld => ?_)
  · (try dsimp only); (exact ⟨Pk.range k3 (List.append_nil _).symm, x0, x1⟩)

  refine wpAnyH_take (i := 0) (v := ?_) rfl (by kernel_rfl) (by kernel_rfl) (by kernel_rfl) (fun _ _ _ h => h) (Or.inl ⟨by rfl, ?_⟩) (by assumption) ?_
  rotate_left; focus (intro w hSw; (try dsimp only at hSw); go_simp; try (with_reducible rfl); done)
  try simp only [List.getElem_toArray, List.getElem_cons_zero, List.getElem_cons_succ, Act.put, List.setIfInBounds_toArray, List.set_cons_zero, List.set_cons_succ]
  refine wpAnyH_take (i := 1) (v := ?_) rfl (by kernel_rfl) (by kernel_rfl) (by kernel_rfl) (fun _ _ _ h => h) (Or.inl ⟨by rfl, ?_⟩) (by assumption) ?_
  rotate_left; focus (intro w hSw; (try dsimp only at hSw); go_simp; try (with_reducible rfl); done)
  try simp only [List.getElem_toArray, List.getElem_cons_zero, List.getElem_cons_succ, Act.put, List.setIfInBounds_toArray, List.set_cons_zero, List.set_cons_succ]
  refine wpAnyH_take (i := 2) (v := ?_) rfl (by kernel_rfl) (by kernel_rfl) (by kernel_rfl) (fun _ _ _ h => h) (Or.inl ⟨by rfl, ?_⟩) (by assumption) ?_
  rotate_left; focus (intro w hSw; (try dsimp only at hSw); go_simp; try (with_reducible rfl); done)
  try simp only [List.getElem_toArray, List.getElem_cons_zero, List.getElem_cons_succ, Act.put, List.setIfInBounds_toArray, List.set_cons_zero, List.set_cons_succ]
  refine wpAnyH_take (i := 3) (v := _) rfl (by kernel_rfl) (by kernel_rfl) (by kernel_rfl) (fun _ _ _ h => h) (yieldsIf_load_mid (by rfl) 36 (.tmp 3) rfl g3 0 rfl (Pk.outA of (.slice (some ⟨gn, 0, none⟩) rows.length rows.length) (.slice at1 nt ct)).toList _ (fun w' h => h.1) Try.underlying36 rfl (by rw [Array.length_toList, HSZ.out]; exact pkInfo)) (by assumption) ?_
  try simp only [List.getElem_toArray, List.getElem_cons_zero, List.getElem_cons_succ, Act.put, List.setIfInBounds_toArray, List.set_cons_zero, List.set_cons_succ]
  refine wpAnyH_take (i := 4) (v := ?_) rfl (by kernel_rfl) (by kernel_rfl) (by kernel_rfl) (fun _ _ _ h => h) (Or.inl ⟨by rfl, ?_⟩) (by assumption) ?_
  rotate_left; focus (intro w hSw; (try dsimp only at hSw); go_simp; try (with_reducible rfl); done)
  try simp only [List.getElem_toArray, List.getElem_cons_zero, List.getElem_cons_succ, Act.put, List.setIfInBounds_toArray, List.set_cons_zero, List.set_cons_succ]
  refine wpAnyH_ready (rs := [5]) (by kernel_rfl) (by simp) ?_
  refine AllReadyH.cons rfl (fun K hK => ?_) AllReadyH.nil
  go_simp
  (first | (go_at_call 14; refine (HQ.out _ HST3.out.bel).mono ?_; rintro e w4 ⟨gn2, q2, rfl, HQ2, hst4⟩; have hst4 := HST3.out.join hst4; have k3 := hst4.heapAt 2 rfl; obtain ⟨x0, x1⟩ := hst4.at2 6 rfl; have HSAME := Lib.hid (pkSame_of of HOF.out nx tags q q2 (hst4.nth 3 rfl).own (fun x hx => hst4.ok _ (List.mem_of_getElem? (i := 4) rfl) _ (List.mem_map.2 ⟨x, hx, rfl⟩)) (hst4.nth 0 rfl).own (fun x hx => hst4.ok _ (List.mem_of_getElem? (i := 1) rfl) _ (List.mem_map.2 ⟨x, hx, rfl⟩)) (hst4.nth 5 rfl).own (HT.out _ hst4.bel) HQ1.out HQ2.out (fun r hr => by rw [HRL.out r hr]; exact HFL.out) (by rw [HNL.out]; exact H200.out) (by rw [HNT.out, HTL.out]; exact H200.out)); have HST4 := Lib.hid hst4; clear hst4) | (go_at_call 13; refine HSAME.out.mono ?_; rintro e w5 ⟨rfl, hb5⟩; have hst5 := HST4.out.call hb5; have k3 := hst5.heapAt 2 rfl; obtain ⟨x0, x1⟩ := hst5.at2 6 rfl; have HST5 := Lib.hid hst5; clear hst5 hb5))
  refine hK.out _ _ ?_ (fun hHeld => ?_)
  · (try dsimp only); (exact ⟨Pk.range k3 (List.append_nil _).symm, x0, x1⟩)
  clear hK K
  try simp only [List.getElem_toArray, List.getElem_cons_zero, List.getElem_cons_succ, Act.put, List.setIfInBounds_toArray, List.set_cons_zero, List.set_cons_succ]
  refine wpAnyH_ready (rs := [6]) (by kernel_rfl) (by simp) ?_
  refine AllReadyH.cons rfl (fun K hK => ?_) AllReadyH.nil
  go_simp
  (first | (go_at_call 14; refine (HQ.out _ HST3.out.bel).mono ?_; rintro e w4 ⟨gn2, q2, rfl, HQ2, hst4⟩; have hst4 := HST3.out.join hst4; have k3 := hst4.heapAt 2 rfl; obtain ⟨x0, x1⟩ := hst4.at2 6 rfl; have HSAME := Lib.hid (pkSame_of of HOF.out nx tags q q2 (hst4.nth 3 rfl).own (fun x hx => hst4.ok _ (List.mem_of_getElem? (i := 4) rfl) _ (List.mem_map.2 ⟨x, hx, rfl⟩)) (hst4.nth 0 rfl).own (fun x hx => hst4.ok _ (List.mem_of_getElem? (i := 1) rfl) _ (List.mem_map.2 ⟨x, hx, rfl⟩)) (hst4.nth 5 rfl).own (HT.out _ hst4.bel) HQ1.out HQ2.out (fun r hr => by rw [HRL.out r hr]; exact HFL.out) (by rw [HNL.out]; exact H200.out) (by rw [HNT.out, HTL.out]; exact H200.out)); have HST4 := Lib.hid hst4; clear hst4) | (go_at_call 13; refine HSAME.out.mono ?_; rintro e w5 ⟨rfl, hb5⟩; have hst5 := HST4.out.call hb5; have k3 := hst5.heapAt 2 rfl; obtain ⟨x0, x1⟩ := hst5.at2 6 rfl; have HST5 := Lib.hid hst5; clear hst5 hb5))
  refine hK.out _ _ ?_ (fun hHeld => ?_)
  · (try dsimp only); (exact ⟨Pk.range k3 (List.append_nil _).symm, x0, x1⟩)
  clear hK K
  try simp only [List.getElem_toArray, List.getElem_cons_zero, List.getElem_cons_succ, Act.put, List.setIfInBounds_toArray, List.set_cons_zero, List.set_cons_succ]
  refine wpAnyH_take (i := 7) (v := ?_) rfl (by kernel_rfl) (by kernel_rfl) (by kernel_rfl) (fun _ _ _ h => h) (Or.inl ⟨by rfl, ?_⟩) (by assumption) ?_
  rotate_left; focus (intro w hSw; (try dsimp only at hSw); go_simp; try (with_reducible rfl); done)
  try simp only [List.getElem_toArray, List.getElem_cons_zero, List.getElem_cons_succ, Act.put, List.setIfInBounds_toArray, List.set_cons_zero, List.set_cons_succ]
  refine wpAnyH_take (i := 8) (v := ?_) rfl (by kernel_rfl) (by kernel_rfl) (by kernel_rfl) (fun _ _ _ h => h) (Or.inl ⟨by rfl, ?_⟩) (by assumption) ?_
  rotate_left; focus (intro w hSw; (try dsimp only at hSw); go_simp; try (with_reducible rfl); done)
  try simp only [List.getElem_toArray, List.getElem_cons_zero, List.getElem_cons_succ, Act.put, List.setIfInBounds_toArray, List.set_cons_zero, List.set_cons_succ]
  refine wpAnyH_done (by kernel_rfl) ?_ _
  go_wp2
  go_ret
  exact ⟨rfl, HST5.out.bel⟩

theorem smallPacks_walk (v : Value) (rows : List (List Int)) (tags : List Int) (w : World) (hd : DfaAt w v rows tags) :
    Calls Try.prog 4 #[v] w fun e w' => e = .returned (.bool true) ∧ Below w.heap.size w w' := by
  by_cases he : Aut.err rows tags = 0
  · exact smallPacks_ok v rows tags w hd he
  · exact smallPacks_bad v rows tags w hd he
end Go.Proofs.Ytbpjmdemmmdnbaa
