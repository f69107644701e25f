/-
  Unpack of package small: what it computes.
-/
import Derived.Test.YtlejdbabbakhlaaPackedChk
import Derived.Test.YtlejdbabbakhlaaClone
import Derived.Great.BuildSlice
namespace Go.Proofs.Ytlejdbabbakhlaa
open Go.ChangeShapes Go.WideShapes Go.ChangeAt Go.RowKit

set_option maxRecDepth 100000 in
set_option maxHeartbeats 8000000 in
theorem unpack_bad (A : Array Value) (of : List Int) (next : List (List Int)) (tags : List Int) (vn vt : Value) (w : World) (hp : PackedAt w A of next tags vn vt) (he : 0 < Pkd.err of next tags) :
    Calls Try.prog 38 #[.agg A] w fun e w' => e = .returned (.tuple #[.agg #[.slice none 0 0, .slice none 0 0], .int .i64 (Pkd.err of next tags)]) ∧ Below w.heap.size w w' := by
  have hsz : (Try.prog.info? 67).map (·.size) = some A.size := by rw [hp.size]; kernel_rfl
  have HS := Lib.hid hsz; clear hsz
  go_enter Try.func38, Try.ntmps38
  go_wp2_with (first
    | (refine wpList_load_row rfl 67 (.tmp 1) rfl w.heap.size rfl 67 A (0, 0) _ (heap_alloc2_old w _ _) Try.underlying67 rfl HS.out ?_)
    | (go_at_call 40; refine (smallCheck_any A of next tags vn vt _ (hp.below (((Below.refl _ _).alloc (Nat.le_refl _) _).alloc (by simp) _))).mono ?_; rintro e w1 ⟨rfl, hb1⟩; obtain ⟨hcl, hfr⟩ := bcell hb1; simp only [World.size_alloc] at hcl hfr))
  refine bodyPost_ret (v := .tuple #[.agg #[.slice none 0 0, .slice none 0 0], .int .i64 (Pkd.err of next tags)]) (by simp [results, Try.results38, go_sem, hcl]) rfl ⟨rfl, ?_⟩
  have hB1 : Below w.heap.size w w1 := (((Below.refl _ _).alloc (Nat.le_refl _) _).alloc (by simp) _).trans (hb1.mono (by simp; omega))
  exact (hB1.setCell (by simp) _).setCell (by simp) _

/-- []T{x} of one array or struct. -/
theorem buildOne {P : Program} {ops : Array Oper} {rest : List Oper} {o : Oper} {a : Act} {w : World} {Q : Exit → Act → World → Prop} {t e : TypeId} {size bytes : Nat} (E : ET P t e size bytes) (hg : o.guard = none) (x : Operand) (ho : o.op = .buildSlice t 1 #[(0, x)])
    (A : Array Value) (hx : a.eval x = .agg A) (hA : A.size = size) (hsm : size ≤ 16777216)
    (h : wpList P ops Q rest (a.put o.dst (.slice (some ⟨w.heap.size, 0, none⟩) 1 1)) (w.alloc (.cells A e))) : wpList P ops Q (o :: rest) a w := by
  obtain ⟨ht, ⟨i, z, hi, hz, hsize, hby, hzs⟩, hp⟩ := E
  refine wpList_buildSlice hg t e 1 _ ho A i z ht hi hz (by rw [hsize]; omega) (by rw [hsize]; omega) ?_ h
  have := Great.fill_whole hp [Value.agg A] ((Array.range (1 * size)).map (z.cells[· % z.cells.size]!)) (fun v hv => by simp at hv; subst hv; exact hA) (by simp)
  rw [hsize]
  simp only [List.map_toArray, List.map_cons, List.map_nil, hx]
  simpa [Value.cells] using this

theorem Own.isSlice {w : World} {B : Nat} {e : TypeId} {size : Nat} {v : Value} {xs : List Value} (h : Own w B e size v xs) : ∃ ao n cap, v = .slice ao n cap := by
  rcases h.shape with ⟨h1, _⟩ | ⟨g, cap, h1, _⟩
  · exact ⟨_, _, _, h1⟩
  · exact ⟨_, _, _, h1⟩

theorem rowE : ET Try.prog 43 101 256 512 := ET.mk' Try.underlying43 (z := .agg Try.zeroCells101) (by kernel_rfl) (by kernel_rfl) (by decide)

theorem flat_get {α β : Type} (f : α → List β) (m : Nat) : ∀ (L : List α), (∀ a ∈ L, (f a).length = m) → ∀ (i : Nat) (h : i < L.length) (j : Nat), j < m → (L.flatMap f)[i * m + j]? = (f L[i])[j]?
  | [], _, i, h, _, _ => by simp at h
  | a :: L, hl, 0, _, j, hj => by
    have := hl a (by simp)
    rw [List.flatMap_cons, Nat.zero_mul, Nat.zero_add, List.getElem?_append_left (by omega)]
    rfl
  | a :: L, hl, i + 1, h, j, hj => by
    have h1 := hl a (by simp)
    have e : (i + 1) * m + j = m + (i * m + j) := by rw [Nat.succ_mul]; omega
    rw [List.flatMap_cons, e, List.getElem?_append_right (by omega), h1, Nat.add_sub_cancel_left]
    exact flat_get f m L (fun b hb => hl b (by simp [hb])) i (by simpa using h) j hj

theorem Sl.wf {w : World} {k : IntKind} {v : Value} {l : List Int} (h : Sl w 1 (RInt k) v l) : ∀ x ∈ l, (Lit.int k x).wf = true := by
  obtain ⟨ao, b, off, cap, _, _, _, _, h4⟩ := h
  intro x hx
  obtain ⟨i, hi, rfl⟩ := List.getElem_of_mem hx
  obtain ⟨cs, _, _, _, h7⟩ := h4 i hi
  exact h7

namespace Wd
def rowOf (of r : List Int) : List Int := (List.range 256).map fun b => r.getD (of.getD b 0).toNat 0
def rowV (r : List Int) : Value := .agg (r.map (Value.int .i16)).toArray
theorem rowOf_len (of r : List Int) : (rowOf of r).length = 256 := by simp [rowOf]
theorem rowOf_get (of r : List Int) (c : Nat) (hc : c < 256) : (rowOf of r)[c]'(by rw [rowOf_len]; exact hc) = r.getD (of.getD c 0).toNat 0 := by simp [rowOf]
/-- The row while it is filled: its first c numbers are there. -/
def part (of r : List Int) (c : Nat) : Array Value := (((rowOf of r).take c).map (Value.int .i16) ++ List.replicate (256 - c) (Value.int .i16 0)).toArray
theorem part_size (of r : List Int) (c : Nat) (hc : c ≤ 256) : (part of r c).size = 256 := by simp [part, rowOf_len]; omega
theorem part_get (of r : List Int) (c : Nat) (hc : c < 256) : (part of r c)[c]? = some (.int .i16 0) := by
  have hl : (((rowOf of r).take c).map (Value.int .i16)).length = c := by simp [rowOf_len]; omega
  simp only [part, List.getElem?_toArray]
  rw [List.getElem?_append_right (by omega), hl, Nat.sub_self, List.getElem?_replicate]
  simp; omega
theorem part_step (of r : List Int) (c : Nat) (hc : c < 256) : (part of r c).setIfInBounds c (.int .i16 (r.getD (of.getD c 0).toNat 0)) = part of r (c + 1) := by
  have hl : (((rowOf of r).take c).map (Value.int .i16)).length = c := by simp [rowOf_len]; omega
  have hcl : c < (rowOf of r).length := by rw [rowOf_len]; exact hc
  have e1 : List.replicate (256 - c) (Value.int .i16 0) = Value.int .i16 0 :: List.replicate (256 - (c + 1)) (Value.int .i16 0) := by
    rw [show 256 - c = (256 - (c + 1)) + 1 by omega, List.replicate_succ]
  simp only [part, List.setIfInBounds_toArray]
  rw [List.take_succ_eq_append_getElem hcl, List.map_append, e1, List.set_append_right _ _ (by omega), hl, Nat.sub_self, List.set_cons_zero, List.append_assoc, List.map_cons, List.map_nil, rowOf_get of r c hc]
  rfl
theorem part_one (of r : List Int) : ∀ q ∈ (Value.agg (part of r 256)).cells.toList, q.oneCell' = true := by
  intro q hq
  simp only [Value.cells, part, Nat.sub_self, List.replicate_zero, List.append_nil, List.mem_map] at hq
  obtain ⟨n, _, rfl⟩ := hq
  rfl
theorem part_end (of r : List Int) : part of r 256 = ((rowOf of r).map (Value.int .i16)).toArray := by
  simp only [part, Nat.sub_self, List.replicate_zero, List.append_nil]
  rw [List.take_of_length_le (by rw [rowOf_len]; exact Nat.le_refl _)]
def rows (of : List Int) (next : List (List Int)) (k : Nat) : List (List Int) := (List.range k).map fun i => rowOf of (next.getD i [])
theorem rows_succ (of : List Int) (next : List (List Int)) (k : Nat) : rows of next (k + 1) = rows of next k ++ [rowOf of (next.getD k [])] := by simp [rows, List.range_succ]
theorem rows_len (of : List Int) (next : List (List Int)) (k : Nat) : (rows of next k).length = k := by simp [rows]
theorem part_zero (of r : List Int) : part of r 0 = Try.zeroCells101 := by
  have h : (List.replicate 256 (Value.int .i16 0)).toArray = Try.zeroCells101 := by kernel_rfl
  rw [← h]; simp only [part, List.take_zero, List.map_nil, List.nil_append, Nat.sub_zero]
theorem rows_wf (of : List Int) (next : List (List Int)) (tags : List Int) (hg : Pkd.Good of next tags) (h200 : next.length ≤ 200) (hof : ∀ c, c < 256 → 0 ≤ of.getD c 0) : ∀ r ∈ rows of next next.length, r.length = 256 ∧ ∀ x ∈ r, (Lit.int .i16 x).wf = true := by
  intro r hr
  simp only [rows, List.mem_map, List.mem_range] at hr
  obtain ⟨k, hk, rfl⟩ := hr
  refine ⟨rowOf_len _ _, fun x hx => ?_⟩
  simp only [rowOf, List.mem_map, List.mem_range] at hx
  obtain ⟨c, hc, rfl⟩ := hx
  have h1 := (hg.rows k hk).2.2 (of.getD c 0).toNat (by have := hg.cols c hc; have := hof c hc; omega)
  generalize (next.getD k []).getD (of.getD c 0).toNat 0 = x at *
  simp [Lit.wf, IntKind.min, IntKind.max, IntKind.signed, IntKind.bits]
  omega
theorem flat (L : List (List Int)) : cellsOf (L.map rowV) = L.flatMap (fun r => r.map (Value.int .i16)) := by
  induction L with
  | nil => rfl
  | cons r L ih => simpa [cellsOf, Value.cells, rowV] using ih
theorem rows_zero (of : List Int) (next : List (List Int)) : rows of next 0 = [] := rfl
theorem sl {w : World} {B : Nat} {e : TypeId} {v : Value} {L : List (List Int)} (h : Own w B e 256 v (L.map rowV)) (hw : ∀ r ∈ L, r.length = 256 ∧ ∀ x ∈ r, (Lit.int .i16 x).wf = true) : Sl w 256 (RRow .i16 256) v L := by
  have hr := h
  unfold Own at hr
  rw [flat, List.length_map] at hr
  have hf := flat_get (fun r : List Int => r.map (Value.int .i16)) 256 L (fun r hr => by simp [(hw r hr).1])
  have hlen := hr.1
  rcases hr.2 with ⟨h1, h2⟩ | ⟨g, cap, cur, rfl, hB, hg, hn, hc, hcs, htk⟩
  · have : L = [] := List.eq_nil_of_length_eq_zero h2
    subst this
    exact ⟨none, 0, 0, 0, h1, Nat.le_refl _, by decide, fun h => by simp at h, fun i hi => by simp at hi⟩
  · refine ⟨some ⟨g, 0, none⟩, g, 0, cap, rfl, hn, hc, fun _ => ⟨rfl, (Array.getElem?_eq_some_iff.1 hg).1⟩, fun i hi => ⟨L[i].map (Value.int .i16), by simp [(hw _ (List.getElem_mem hi)).1], fun j hj => ?_, rfl, hw _ (List.getElem_mem hi)⟩⟩
    have h5 : i * 256 + j < L.length * 256 := by omega
    have := hr.cellAt (i * 256 + j) h5
    rw [Nat.zero_add, this]
    exact hf i hi j hj
attribute [irreducible] rowOf part rows rowV
end Wd

set_option maxRecDepth 100000 in
set_option maxHeartbeats 8000000 in
theorem unpack_ok (A : Array Value) (of : List Int) (next : List (List Int)) (tags : List Int) (vn vt : Value) (w : World) (hp : PackedAt w A of next tags vn vt) (he : Pkd.err of next tags = 0) :
    Calls Try.prog 38 #[.agg A] w fun e w' => ∃ v', e = .returned (.tuple #[v', .int .i64 0]) ∧ DfaAt w' v' (Wd.rows of next next.length) tags ∧ Below w.heap.size w w' := by
  have HE := Lib.hid he
  obtain ⟨h200, hg⟩ : next.length ≤ 200 ∧ Pkd.Good of next tags := by
    rcases Pkd.err_cases of next tags with h | h
    · omega
    · exact h.2
  clear he
  have hsz : (Try.prog.info? 67).map (·.size) = some A.size := by rw [hp.size]; kernel_rfl
  have HS := Lib.hid hsz; clear hsz
  have c256 := hp.c256; have c257 := hp.c257
  have HG := Lib.hid hg; clear hg
  have HP := Lib.hid hp
  obtain ⟨ao, b, off, cap, rfl, n1, n2, n3, n4⟩ := slSls hp.nexts
  unfold maxLen at n2
  clear n2
  obtain ⟨rfl, hb⟩ := n3 (by have := HG.out.n0; omega)
  have N4 := Lib.hid n4; clear n4 n3
  go_enter Try.func38, Try.ntmps38
  go_wp2_with (first
    | (refine wpList_load_row rfl 67 (.tmp 1) rfl w.heap.size rfl 67 A (0, 0) _ (heap_alloc2_old w _ _) Try.underlying67 rfl HS.out ?_)
    | (go_at_call 40; refine (smallCheck_any A of next tags _ vt _ (HP.out.below (((Below.refl _ _).alloc (Nat.le_refl _) _).alloc (by simp) _))).mono ?_; rintro e w1 ⟨rfl, hb1⟩; rw [HE.out]; obtain ⟨hcl, hfr⟩ := bcell hb1; simp only [World.size_alloc] at hcl hfr; have hB1 : Below w.heap.size w w1 := (((Below.refl _ _).alloc (Nat.le_refl _) _).alloc (by simp) _).trans (hb1.mono (by simp; omega)); have hz1 : w.heap.size + 1 < w1.heap.size := (by have := hb1.size; simp at this; omega); have hy1 : w.heap.size < w1.heap.size := (by omega))
    | (go_at_call 56; refine (clone_any (l := tags) _ (HP.out.below hB1).tagss (by have := HG.out.tl; omega)).mono ?_; rintro e w2 ⟨vt2, rfl, hown, hb2⟩; obtain ⟨ao2, m2, cp2, rfl⟩ := hown.isSlice; obtain ⟨hcl2, hfr2⟩ := bcell hb2; have hz2 : w.heap.size + 1 < w2.heap.size := (by have := hb2.size; omega); have hy2 : w.heap.size < w2.heap.size := (by omega)))
  have hB2 : Below w.heap.size w w2 := hB1.trans (hb2.mono hB1.size)
  obtain ⟨S, hS⟩ : ∃ S, S = w.heap.size := ⟨_, rfl⟩
  have hxn : w2.cell? ⟨S, 256, none⟩ = some (.slice (some ⟨b, off, none⟩) next.length cap) := by
    rw [hS, hcl2 _ _ hy1, hcl _ _ (by omega), World.cell?_alloc_past _ _ _ (by simp), World.cell?_alloc_new]; exact c256
  have hxo : Hid (∀ c, c < 256 → w2.cell? ⟨S, c, none⟩ = some (.int .u8 (of.getD c 0))) := Lib.hid (fun c hc => by
    rw [hS, hcl2 _ _ hy1, hcl _ _ (by omega), World.cell?_alloc_past _ _ _ (by simp), World.cell?_alloc_new]; exact HP.out.of_at c hc)
  have hxr : Hid (w2.cell? ⟨S + 1, 0, none⟩ = some (.slice none 0 0) ∧ w2.cell? ⟨S + 1, 1, none⟩ = some (.slice none 0 0) ∧ w2.frozen? ⟨S + 1, 0, none⟩ = false ∧ w2.frozen? ⟨S + 1, 1, none⟩ = false) := Lib.hid (by
    refine ⟨?_, ?_, ?_, ?_⟩
    · rw [hS, hcl2 _ _ hz1, hcl _ _ (by omega), World.cell?_alloc_at _ _ _ _ (by simp)]; rfl
    · rw [hS, hcl2 _ _ hz1, hcl _ _ (by omega), World.cell?_alloc_at _ _ _ _ (by simp)]; rfl
    · rw [hS, hfr2 _ _ hz1, hfr _ _ (by omega), World.frozen?_alloc_at _ _ _ _ (by simp)]
    · rw [hS, hfr2 _ _ hz1, hfr _ _ (by omega), World.frozen?_alloc_at _ _ _ _ (by simp)])
  clear hcl hfr hcl2 hfr2
  have HB2 := Lib.hid hB2; clear hB2
  have HOW := Lib.hid hown; clear hown
  obtain ⟨O, hO⟩ : ∃ O, O = w2.heap.size := ⟨_, rfl⟩
  rw [← hS] at hz1 hy1 hz2 hy2
  rw [← hO] at hz2 hy2
  have hB3 : Below O w2 (w2.alloc (.cells #[.slice none 0 0, .slice ao2 m2 cp2] 45)) := by rw [hO]; exact (Below.refl _ _).alloc (Nat.le_refl _) _
  have hO0 : (w2.alloc (.cells #[.slice none 0 0, .slice ao2 m2 cp2] 45)).heap[O]? = some (.cells #[.slice none 0 0, .slice ao2 m2 cp2] 45 (0, 0)) := by rw [hO]; exact heap_alloc_new _ _
  rw [← hS, ← hO]
  obtain ⟨W3, hW3⟩ : ∃ W3, W3 = w2.alloc (.cells #[.slice none 0 0, .slice ao2 m2 cp2] 45) := ⟨_, rfl⟩
  rw [← hW3] at hB3 hO0 ⊢
  have hsz3 : W3.heap.size = O + 1 := by rw [hW3, hO]; simp
  have Hsz3 := Lib.hid hsz3
  clear hsz3 hW3
  have HS3 := Lib.hid hS; clear hS
  have HO3 := Lib.hid hO; clear hO
  go_loopw [7, 8, 9, 23] (fun _ _ _ i wr => ∃ (k : Nat) (v : Value), k ≤ next.length ∧ i = .int .i64 k ∧ Below O w2 wr ∧ O < wr.heap.size ∧ wr.heap[O]? = some (.cells #[v, .slice ao2 m2 cp2] 45 (0, 0)) ∧ Own wr (O + 1) 101 256 v ((Wd.rows of next k).map Wd.rowV)) (fun _ _ _ i _ => next.length - (intOf i).toNat)
  case atStart => exact ⟨0, _, by omega, rfl, hB3, by rw [Hsz3.out]; omega, hO0, by rw [Wd.rows_zero]; exact Own.nil _ _ _ _⟩
  case round =>
    clear hB3 hO0
    obtain ⟨k, v, hk, rfl, hBr, hOs, hOb, hown⟩ := hrel
    by_cases hlt : k < next.length
    · obtain ⟨vk, hvk, hsk⟩ := N4.out k hlt
      obtain ⟨ak, bk, ok, capk, rfl, r1, r2, r3, r4, r5⟩ := slInts hsk
      have hrg := HG.out.rows k hlt
      have hwd := HG.out.w0
      obtain ⟨rfl, hbk⟩ := r3 (by have := hrg.2.1; omega)
      have hbS : b < O := by have := HS3.out; omega
      have hbkS : bk < O := by have := HS3.out; omega
      have hnk : wr.cell? ⟨b, off + k, none⟩ = some (.slice (some ⟨bk, ok, none⟩) (next.getD k []).length capk) := (hBr.cell (p := ⟨b, off + k, none⟩) hbS).trans (bkeep HB2.out hvk)
      have HR4 : Hid (∀ c, c < (next.getD k []).length → w2.cell? ⟨bk, ok + c, none⟩ = some (.int .i64 ((next.getD k []).getD c 0))) := Lib.hid (fun c hc => bkeep HB2.out (r4 c hc))
      clear r2
      have HRG := Lib.hid hrg; clear hrg hwd
      clear hvk hsk r3 r4 r5
      generalize hrw : next.getD k [] = row at *
      have Hrw := Lib.hid hrw; clear hrw
      have HBr := Lib.hid hBr; clear hBr
      have HOb := Lib.hid hOb; clear hOb
      have HOwn := Lib.hid hown; clear hown
      go_wp2
      obtain ⟨g, hg⟩ : ∃ g, g = wr.heap.size := ⟨_, rfl⟩
      have hg0 : (wr.alloc (.cells Try.zeroCells101 101)).heap[g]? = some (.cells (Wd.part of row 0) 101 (0, 0)) := by
        rw [hg, heap_alloc_new, Wd.part_zero]
      have hgB : Below g wr (wr.alloc (.cells Try.zeroCells101 101)) := by rw [hg]; exact (Below.refl _ _).alloc (Nat.le_refl _) _
      have hgs : (wr.alloc (.cells Try.zeroCells101 101)).heap.size = g + 1 := by rw [hg]; simp
      rw [← hg]
      obtain ⟨W5, hW5⟩ : ∃ W5, W5 = wr.alloc (.cells Try.zeroCells101 101) := ⟨_, rfl⟩
      rw [← hW5] at hg0 hgB hgs ⊢
      have hOg : O < g := by omega
      clear hW5 hnk
      have HGG := Lib.hid hg; clear hg
      obtain ⟨wo, rfl⟩ : ∃ wo : World, wo = wr := ⟨_, rfl⟩
      go_loopw [9, 27] (fun _ i ww => ∃ c : Nat, c ≤ 256 ∧ i = .int .i64 c ∧ Below g wo ww ∧ Hid (ww.heap.size = g + 1) ∧ Hid (ww.heap[g]? = some (.cells (Wd.part of row c) 101 (0, 0)))) (fun _ i _ => 256 - (intOf i).toNat)
      case atStart => exact ⟨0, by omega, rfl, hgB, Lib.hid hgs, Lib.hid hg0⟩
      case round =>
        clear hgB hgs hg0
        obtain ⟨c, hc, rfl, hBg, hsg, hbg⟩ := hrel
        have HBg := Lib.hid hBg; clear hBg
        by_cases hcl : c < 256
        · obtain ⟨m, hm⟩ := Int.eq_ofNat_of_zero_le (HP.out.of_wf c hcl).1
          have hmw : m < row.length := by
            have h1 := HG.out.cols c hcl
            have h2 := HRG.out.2.1
            omega
          have hx1 : wr.cell? ⟨S, c, none⟩ = some (.int .u8 (m : Int)) := by
            rw [HBg.out.cell (p := ⟨S, c, none⟩) (show S < g by omega), HBr.out.cell (p := ⟨S, c, none⟩) hy2, hxo.out c hcl, hm]
          have hx2 : wr.cell? ⟨bk, ok + m, none⟩ = some (.int .i64 (row.getD m 0)) := by
            rw [HBg.out.cell (p := ⟨bk, ok + m, none⟩) (show bk < g by omega), HBr.out.cell (p := ⟨bk, ok + m, none⟩) hbkS, HR4.out m hmw]
          have hxb := HRG.out.2.2 m (by have := HRG.out.2.1; omega)
          have hst := Lib.hid (Wd.part_step of row c hcl)
          rw [hm, Int.toNat_natCast] at hst
          have Hm := Lib.hid hm; clear hm
          generalize row.getD m 0 = x at *
          obtain ⟨hxb0, hxb1⟩ := hxb
          have hd1 : wr.cell? ⟨g, c, none⟩ = some (.int .i16 0) := by rw [cell_of_row wr g c _ _ _ hbg.out]; exact Wd.part_get of row c hcl
          have hd2 : wr.frozen? ⟨g, c, none⟩ = false := frozen_of_row wr g c _ _ hbg.out
          go_wp2
          go_roundw
          case rel => exact ⟨c + 1, by omega, by go_num, HBg.out.setCell (Nat.le_refl _) _, Lib.hid (by rw [World.size_setCell]; exact hsg.out), Lib.hid (by rw [heap_setCell_same _ _ _ _ _ _ hbg.out, hst.out])⟩
          case measure => simp [intOf]; omega
        · obtain rfl : c = 256 := by omega
          have hgw : wr.heap[g]? = some (.cells (Wd.part of row 256) 101 (0, 0)) := hbg.out
          have hOw : wr.heap[O]? = some (.cells #[v, .slice ao2 m2 cp2] 45 (0, 0)) := by rw [HBg.out.block O hOg]; exact HOb.out
          have hOwnW : Own wr (O + 1) 101 256 v ((Wd.rows of next k).map Wd.rowV) := HOwn.out.below HBg.out (fun q hq => by have := (HOwn.out.lt q hq).2; have := HGG.out; omega)
          have hv0 : wr.cell? ⟨O, 0, none⟩ = some v := by rw [cell_of_row wr O 0 _ _ _ hOw]; rfl
          have hpsz := Wd.part_size of row 256 (Nat.le_refl _)
          have hpi : Hid ((Try.prog.info? 101).map (·.size) = some (Wd.part of row 256).size) := Lib.hid (by rw [hpsz]; kernel_rfl)
          have HGW := Lib.hid hgw; clear hgw
          have HOW2 := Lib.hid hOw; clear hOw
          have hWs : O + 1 ≤ wr.heap.size := by have := hsg.out; omega
          have HPS := Lib.hid hpsz; clear hpsz
          have HBX := Lib.hid (HBr.out.trans (HBg.out.mono (Nat.le_of_lt hOg)))
          have hOl : O ≤ wr.heap.size := by omega
          have hOl2 : O ≤ (wr.alloc (.cells (Wd.part of row 256) 101)).heap.size := by rw [World.size_alloc]; omega
          have hOo : ∀ q, v.ownBlock = some q → O ≤ q := fun q hq => by have := (HOwn.out.lt q hq).1; omega
          go_wp2_with (first
            | (refine wpList_load_row rfl 101 (.tmp 8) rfl g rfl 101 (Wd.part of row 256) (0, 0) _ HGW.out Try.underlying101 rfl hpi.out ?_)
            | (refine buildOne rowE rfl (.tmp 43) rfl (Wd.part of row 256) rfl HPS.out (by decide) ?_)
            | (at_builtin; refine app1 (v := v) rowE rfl (.tmp 42) (.tmp 44) rfl (O + 1) ((Wd.rows of next k).map Wd.rowV) rfl (hOwnW.alloc _) (.agg (Wd.part of row 256)) _ 1 rfl (fun j q hq => cells_lit _ _ j q hq) (by rw [← Array.length_toList] at HPS; exact HPS.out) (Wd.part_one of row) (by simp [Wd.rows_len]; omega) (by simp [Wd.rows_len]; unfold maxLen; omega) (by simp; omega) ?_; intro g7 n7 c7 w7 hown7 hgr7 hg7 hg7'; have hgr8 : World.grownBy _ w7 v.ownBlock := hgr7; have hO7 : w7.heap[O]? = some (.cells #[v, .slice ao2 m2 cp2] 45 (0, 0)) := (by rw [hgr8.block O (by simp; omega) (fun e => by have := (HOwn.out.lt O e.symm).1; omega), Below.heap_alloc _ _ O (by omega)]; exact HOW2.out); have hc7 : w7.cell? ⟨O, 0, none⟩ = some v := (by rw [cell_of_row w7 O 0 _ _ _ hO7]; rfl); have hf7 : w7.frozen? ⟨O, 0, none⟩ = false := frozen_of_row w7 O 0 _ _ hO7; have hB7 : Below O w2 w7 := ((HBX.out.alloc hOl (.cells (Wd.part of row 256) 101)).grown hgr8 hOl2 hOo); have HO7 := Lib.hid hO7; have HB7 := Lib.hid hB7; have HW7 := Lib.hid hown7; clear hgr8 hgr7 hO7 hB7 hown7))
          go_roundw
          case rel =>
            refine ⟨k + 1, .slice (some ⟨g7, 0, none⟩) n7 c7, by omega, by go_num, HB7.out.setCell (Nat.le_refl _) _, by rw [World.size_setCell]; omega, by rw [heap_setCell_same _ _ _ _ _ _ HO7.out]; rfl, ?_⟩
            rw [Wd.rows_succ, Hrw.out, List.map_append, List.map_cons, List.map_nil, Wd.rowV, ← Wd.part_end]
            exact ownsRow_setCell_below HW7.out (Nat.lt_succ_self _) _
          case measure => simp [intOf]; omega
    · obtain rfl : k = next.length := by omega
      obtain ⟨av, nv, cv, rfl⟩ := hown.isSlice
      have hc0 : wr.cell? ⟨O, 0, none⟩ = some (.slice av nv cv) := by rw [cell_of_row wr O 0 _ _ _ hOb]; rfl
      have hc1 : wr.cell? ⟨O, 1, none⟩ = some (.slice ao2 m2 cp2) := by rw [cell_of_row wr O 1 _ _ _ hOb]; rfl
      have hr0 : wr.cell? ⟨S + 1, 0, none⟩ = some (.slice none 0 0) := by rw [hBr.cell (p := ⟨S + 1, 0, none⟩) hz2]; exact hxr.out.1
      have hr1 : wr.cell? ⟨S + 1, 1, none⟩ = some (.slice none 0 0) := by rw [hBr.cell (p := ⟨S + 1, 1, none⟩) hz2]; exact hxr.out.2.1
      have hf0 : wr.frozen? ⟨S + 1, 0, none⟩ = false := by rw [World.frozen?_of_block (w := w2) (hBr.block (S + 1) hz2)]; exact hxr.out.2.2.1
      have hf1 : wr.frozen? ⟨S + 1, 1, none⟩ = false := by rw [World.frozen?_of_block (w := w2) (hBr.block (S + 1) hz2)]; exact hxr.out.2.2.2
      have HBr := Lib.hid hBr
      have HOb := Lib.hid hOb
      have HOwn := Lib.hid hown
      clear hBr hOb hown
      go_wp2

      refine bodyPost_ret (v := .tuple #[.agg #[.slice av nv cv, .slice ao2 m2 cp2], .int .i64 0]) (by simp [results, Try.results38, go_sem, hr0, hr1]) rfl ⟨_, rfl, ⟨.slice av nv cv, .slice ao2 m2 cp2, rfl, Wd.sl (B := O + 1) (e := 101) ?_ (Wd.rows_wf of next tags HG.out h200 (fun c hc => (HP.out.of_wf c hc).1)), Own.sl (B := w1.heap.size) (e := 3) ?_ HP.out.tagss.wf⟩, ?_⟩
      · exact ownsRow_setCell_below (ownsRow_setCell_below HOwn.out (by show S + 1 < O + 1; omega) _) (by show S + 1 < O + 1; omega) _
      · have h8 : Own wr w1.heap.size 3 1 (.slice ao2 m2 cp2) (tags.map (Value.int .i64)) := HOW.out.below HBr.out (fun q hq => by have := (HOW.out.lt q hq).2; have := HO3.out; omega)
        exact ownsRow_setCell_below (ownsRow_setCell_below h8 (by exact hz1) _) (by exact hz1) _
      · have h9 : Below w.heap.size w wr := HB2.out.trans (HBr.out.mono (by have := HS3.out; omega))
        exact (h9.setCell (by show w.heap.size ≤ S + 1; have := HS3.out; omega) _).setCell (by show w.heap.size ≤ S + 1; have := HS3.out; omega) _
end Go.Proofs.Ytlejdbabbakhlaa
