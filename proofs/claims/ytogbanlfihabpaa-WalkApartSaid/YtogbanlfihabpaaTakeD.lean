/-
  walk.Parts's 'take': its loop over the free ports.
-/
import Derived.Test.YtogbanlfihabpaaTakeB
import Derived.Test.YtogbanlfihabpaaRegionHS
import Derived.Deep.LoopGhost
/-
  walk.Parts's 'take': a free port is taken.
-/
namespace Go.Proofs.Ytogbanlfihabpaa
open Go.RowKit
attribute [local go_sem] cell_set
attribute [local go_sem] Oper.semAt_some
set_option maxRecDepth 100000
set_option linter.unusedVariables false
section
variable (Q : Exit → Act → World → Prop) (w1 : World) (bl bw bo bf P go gf gl cl bn b5 Dl : Nat) (f : Nat) (n : Nat)
set_option maxHeartbeats 4000000 in
theorem tk_13 (ds : List Deferred) (a : Act) (X : World) (p : Pt) (ofs frs xs ys : List Int) (av bv : Value) (qs : List PV) (i : Nat) (hi : i < f) (hf5 : f ≤ 10000)
    (hq : qs.length ≤ 10000) (hy : ys.length ≤ i) (hQ : ∀ c a d v w, Q (.panic c) (Act.put a d v) w → Q (.panic c) a w)
    (hs : Hid (TkF w1 X bl bw bo bf P go gf n f gl cl bn b5 Dl p ofs frs qs av bv xs ys))
    (hgo : Hid (∀ a' X' b', FrN 104 ds [(1, .pointer (some ⟨bl, 0, none⟩)), (2, .pointer (some ⟨bw, 0, none⟩)), (3, .pointer (some ⟨bo, 0, none⟩)), (4, .pointer (some ⟨bf, 0, none⟩)), (5, .pointer (some ⟨b5, 0, none⟩)), (6, .pointer (some ⟨bn, 0, none⟩)), (46, .int .i64 (f : Int)), (47, .int .i64 (i : Int))] a' → TkF w1 X' bl bw bo bf P go gf n f gl cl bn b5 Dl p ofs (frs.set i ((qs.length : Int) + 1)) qs av b' xs (ys ++ [(i : Int)]) → Q .normal a' X'))
    (ha : FrN 104 ds [(1, .pointer (some ⟨bl, 0, none⟩)), (2, .pointer (some ⟨bw, 0, none⟩)), (3, .pointer (some ⟨bo, 0, none⟩)), (4, .pointer (some ⟨bf, 0, none⟩)), (5, .pointer (some ⟨b5, 0, none⟩)), (6, .pointer (some ⟨bn, 0, none⟩)), (46, .int .i64 (f : Int)), (47, .int .i64 (i : Int)), (8, .int .i64 (i : Int))] a) : (tkT 13).wp Try.prog Q a X := by
  obtain ⟨U, rfl, e1, e2, e3, e4, e5, e6, e46, e47, e8, -⟩ := ha.openTK
  unfold FrTK
  simp only [e1, e2, e3, e4, e5, e6, e46, e47, e8]
  clear e1 e2 e3 e4 e5 e6 e46 e47 e8 ha
  show (Code.seq _ _).wp _ _ _ _
  obtain ⟨i0, hi0, hi1, hi2, hi3⟩ := info_parts int_info
  obtain ⟨k, hk⟩ : ∃ k, qs.length = k := ⟨_, rfl⟩
  have HK := Lib.hid hk
  obtain ⟨kp, hkp⟩ : ∃ kp, ys.length = kp := ⟨_, rfl⟩
  have HKP := Lib.hid hkp
  have hif : (i : Int) < (f : Int) := by omega
  obtain ⟨n1, n1f, n1l⟩ := hs.out.st.blc
  obtain ⟨n2, n2l⟩ := hs.out.bnc
  obtain ⟨n3, n3l⟩ := hs.out.st.bfc
  obtain ⟨⟨fv, n4⟩, n5⟩ := hs.out.frf hi
  obtain ⟨ra, rb⟩ := hs.out.st.q1 ⟨av, bv, xs, ys⟩ (by simp)
  dsimp only at ra rb
  have n6 : X.cell? ⟨gl, qs.length * 2 + 1, none⟩ = some bv := by
    have h1 := hs.out.st.lr
    rw [List.length_append, List.length_singleton] at h1
    have h := (h1.cellAt (qs.length * 2 + 1) (by omega)).trans (pvCells_at (qs := qs ++ [⟨av, bv, xs, ys⟩]) (i := qs.length) (by simp)).2
    rw [h]
    simp
  obtain ⟨rgf, egf⟩ := row_block hs.out.st.fg gf (by simp [ownB])
  obtain ⟨rgl, egl⟩ := row_block hs.out.st.lr gl (by simp [ownB])
  have ngl : gl ≠ gf := fun e => by rw [e] at egl; exact ty_no2 egl egf (by decide)
  have nbl : bl ≠ gf := fun e => by have e1 := hs.out.st.xl; rw [e] at e1; exact ty_no2 e1 egf (by decide)
  have nbn : bn ≠ gf := hs.out.nn.2.1
  have hbm : bv ∈ pvCells (qs ++ [(⟨av, bv, xs, ys⟩ : PV)]) := by rw [pvCells_snoc]; simp
  have ngb : gf ∉ ownB bv := (hs.out.st.ng bv hbm).2
  rw [hk] at n1 n2 n6 hq
  have n1a : (X.setCell ⟨gf, i, none⟩ (.int .i64 ((k : Int) + 1))).cell? ⟨bl, 0, none⟩ = some (.slice (some ⟨gl, 0, none⟩) (k + 1) cl) := by rw [cell_set, if_neg (fun h => nbl h.1.symm)]; exact n1
  have n2a : (X.setCell ⟨gf, i, none⟩ (.int .i64 ((k : Int) + 1))).cell? ⟨bn, 0, none⟩ = some (.int .i64 ((k : Int) + 1)) := by rw [cell_set, if_neg (fun h => nbn h.1.symm)]; exact n2
  have HRw : Hid (Row (((X.setCell ⟨gf, i, none⟩ (.int .i64 ((k : Int) + 1))).drew).alloc (.cells #[.int .i64 (i : Int)] 3)) 3 1 bv kp (ivals ys)) := by
    show Row _ _ _ _ _ _
    rw [← hkp]
    exact (rb.keep (fun b hb => Below.heap_setCell _ _ _ b (fun (e : b = gf) => ngb (e ▸ hb)))).drew.alloc _
  have HSr : Hid (Src (((X.setCell ⟨gf, i, none⟩ (.int .i64 ((k : Int) + 1))).drew).alloc (.cells #[.int .i64 (i : Int)] 3)) (some ⟨X.heap.size, 0, none⟩) 1 1 [.int .i64 (i : Int)]) := Src.block (cs := #[.int .i64 (i : Int)]) (t := 3) (fr := (0, 0)) (by simpa using heap_alloc_new ((X.setCell ⟨gf, i, none⟩ (.int .i64 ((k : Int) + 1))).drew) (.cells #[.int .i64 (i : Int)] 3)) rfl (by simp [Value.oneCell'])
  obtain ⟨vb, ac, rfl⟩ : ∃ vb ac, bv = .slice vb kp ac := by
    rw [← hkp]; obtain ⟨A9, c9, e9, _⟩ := rb.len; exact ⟨A9, c9, e9⟩
  have n6a : (X.setCell ⟨gf, i, none⟩ (.int .i64 ((k : Int) + 1))).cell? ⟨gl, k * 2 + 1, none⟩ = some (.slice vb kp ac) := by rw [cell_set, if_neg (fun h => ngl h.1.symm)]; exact n6
  have hg63 : kp + 1 ≤ maxLen := by simp only [maxLen]; omega
  have hg47 : (kp + 1) * 8 ≤ 140737488355328 := by omega
  have hk1 : IntKind.i64.wrap (k : Int) = (k : Int) := by rw [IntWalk.i64_in _ (by omega)]
  have hk2 : (k : Int) < (k : Int) + 1 := by omega
  clear hk hkp ra rb rgf egf rgl egl ngl nbl nbn hbm ngb
  go_upto_region 14 with fail
  refine region_hs 10 12 (fun W' => W'.cell? ⟨bl, 0, none⟩ = some (.slice (some ⟨gl, 0, none⟩) (k + 1) cl) ∧ W'.cell? ⟨bn, 0, none⟩ = some (.int .i64 ((k : Int) + 1)) ∧ W'.cell? ⟨gl, k * 2 + 1, none⟩ = some (.slice vb kp ac)) (by kernel_rfl) (by kernel_rfl) hQ ?hS ?_; (case hS => exact ⟨n1a, n2a, n6a⟩)
  simp only [List.take_succ_cons, List.take_zero, List.drop_succ_cons, List.drop_zero]
  iterate 10 (refine wpHead_step (v := ?_) (by rfl) ?_ ?_; rotate_left; (· intro W9 ⟨s1, s2, s3⟩; go_simp; try with_reducible rfl); (try simp only [Act.put, List.setIfInBounds_toArray, List.set_cons_zero, List.set_cons_succ]))
  refine wpHead_nil ?_
  refine wpMid_step (by rfl) (fun K9 hK9 => ?_)
  unfold Oper.wp
  go_simp
  refine hK9 _ _ (⟨cell_alloc _ n1a, cell_alloc _ n2a, cell_alloc _ n6a⟩) ?_
  (try simp only [Act.put, List.setIfInBounds_toArray, List.set_cons_zero, List.set_cons_succ])
  clear hK9 K9
  refine wpMid_step (by rfl) (fun K9 hK9 => ?_)
  refine wpo_row_append _ _ _ (by rfl) i0 _ 8 Try.underlying23 hi0 hi1 hi2 hi3 (by rfl) (by rfl) HRw.out _ 1 1 (by rfl) [.int .i64 (i : Int)] HSr.out hg63 hg47 ?_
  intro sv5 w7 r5 k5 o5
  obtain ⟨V5, cp7, rfl, hc5'⟩ := r5.len
  change Kp (ownB (.slice vb kp ac)) _ w7 at k5
  change ownB (.slice V5 (kp + 1) cp7) = ownB (.slice vb kp ac) ∨ ownB (.slice V5 (kp + 1) cp7) = [_] at o5
  have A5 := TkF.freed (i := i) (N := (k : Int) + 1) (x := (i : Int)) (o := .cells #[.int .i64 (i : Int)] 3) hs.out (b' := .slice V5 (kp + 1) cp7) (by rw [HKP.out]; exact r5) k5 (o5.imp id fun e b hb => by rw [e] at hb; simp at hb; omega)
  rw [HK.out] at A5
  obtain ⟨⟨z1, z2, z3, z4⟩, A6⟩ := A5
  have HA6 := Lib.hid A6
  refine hK9 _ _ ⟨z1, z2, z3⟩ ?_
  refine wpMid_nil ?_
  clear hK9 K9 A6 k5 o5 r5 n1 n2 n3 n4 n5 n6 n1a n2a n6a n1f n1l n2l n3l
  rw [HK.out] at hgo
  repeat (first | ((with_reducible refine hgo.out _ _ (.slice V5 (kp + 1) cp7) ?_ ?_); (· exact ⟨rfl, rfl, rfl, rfl, rfl, rfl, rfl, rfl, rfl, rfl, trivial⟩); (· exact HA6.out)) | go_values | go_skip | go_guarded | go_step | go_upon | go_back)
end
end Go.Proofs.Ytogbanlfihabpaa
namespace Go.Proofs.Ytogbanlfihabpaa
open Go.RowKit
attribute [local go_sem] cell_set
attribute [local go_sem] Oper.semAt_some
set_option maxRecDepth 100000
set_option linter.unusedVariables false
theorem frL_step {f : Nat} {Lk : Pt → Pt} {p : Pt} {l : List Int} : frL (f + 1) Lk p l = if frC Lk p l f = true then frL f Lk p l ++ [(f : Int)] else frL f Lk p l := by
  by_cases h : frC Lk p l f = true
  · rw [if_pos h, frL_in h]
  · rw [if_neg h, frL_out (by simpa using h)]
section
variable (Q : Exit → Act → World → Prop) (w1 : World) (bl bw bo bf P m go gf gl cl bn b5 Dl : Nat) (A : Option Addr) (cap : Nat) (L : List (ByteArray × Int)) (VA VB : Option Addr) (ca cb : Nat) (cells : List Int) (f : Nat) (W : List (Pt × Pt)) (n : Nat)
set_option maxHeartbeats 4000000 in
theorem tk_9 (ds : List Deferred) (a : Act) (X : World) (p : Pt) (ofs frs xs : List Int) (av bv : Value) (qs : List PV) (i : Nat) (wl : List Int) (hi : i ≤ f) (hok : Hid (NetOk (pnL L) cells f W)) (hc5 : cells.length ≤ 5000) (hf5 : f ≤ 10000)
    (hn : n = cells.length) (hq : qs.length ≤ 10000) (hof : Hid (∀ c, c < n → (ofs.getD c 0 = ((qs.length : Int) + 1) ↔ (c : Int) ∈ wl))) (hw : Hid (WebS w1 P m A cap L VA VB ca cb cells f W))
    (hcd : Hid (∀ i, i < f → (((0 ≤ (lkM W (-1, (i : Int))).1 ∧ (lkM W (-1, (i : Int))).1 ∈ wl) ∨ p = (-1, (i : Int)) ∨ (lkM W (-1, (i : Int)) = p ∧ (lkM W (-1, (i : Int))).1 < 0)) ↔ frC (lkM W) p wl i = true)))
    (hQ : ∀ c a d v w, Q (.panic c) (Act.put a d v) w → Q (.panic c) a w)
    (hs : Hid (TkF w1 X bl bw bo bf P go gf n f gl cl bn b5 Dl p ofs (setAll frs ((qs.length : Int) + 1) (frL i (lkM W) p wl)) qs av bv xs (frL i (lkM W) p wl)))
    (hgo : Hid (∀ a' X' b', i < f → FrN 104 ds [(1, .pointer (some ⟨bl, 0, none⟩)), (2, .pointer (some ⟨bw, 0, none⟩)), (3, .pointer (some ⟨bo, 0, none⟩)), (4, .pointer (some ⟨bf, 0, none⟩)), (5, .pointer (some ⟨b5, 0, none⟩)), (6, .pointer (some ⟨bn, 0, none⟩)), (46, .int .i64 (f : Int)), (47, .int .i64 ((i + 1 : Nat) : Int))] a' → TkF w1 X' bl bw bo bf P go gf n f gl cl bn b5 Dl p ofs (setAll frs ((qs.length : Int) + 1) (frL (i + 1) (lkM W) p wl)) qs av b' xs (frL (i + 1) (lkM W) p wl) → Q .normal a' X'))
    (hout : Hid (∀ a' X', FrN 104 ds [] a' → i = f → TkF w1 X' bl bw bo bf P go gf n f gl cl bn b5 Dl p ofs (setAll frs ((qs.length : Int) + 1) (frL i (lkM W) p wl)) qs av bv xs (frL i (lkM W) p wl) → Q (.exit 2) a' X'))
    (ha : FrN 104 ds [(1, .pointer (some ⟨bl, 0, none⟩)), (2, .pointer (some ⟨bw, 0, none⟩)), (3, .pointer (some ⟨bo, 0, none⟩)), (4, .pointer (some ⟨bf, 0, none⟩)), (5, .pointer (some ⟨b5, 0, none⟩)), (6, .pointer (some ⟨bn, 0, none⟩)), (46, .int .i64 (f : Int)), (47, .int .i64 (i : Int))] a) : (tkT 9).wp Try.prog Q a X := by
  obtain ⟨U, rfl, e1, e2, e3, e4, e5, e6, e46, e47, -⟩ := ha.openTK
  unfold FrTK
  simp only [e1, e2, e3, e4, e5, e6, e46, e47]
  clear e1 e2 e3 e4 e5 e6 e46 e47 ha
  show (Code.seq _ _).wp _ _ _ _
  have HN := Lib.hid hn
  by_cases hlt : i < f
  · have hif : (i : Int) < (f : Int) := by omega
    have HLT : Hid (i < f) := hlt
    have hyl : Hid ((frL i (lkM W) p wl).length ≤ i) := frL_len _ _ _ _
    obtain ⟨ys, hys⟩ : ∃ ys, frL i (lkM W) p wl = ys := ⟨_, rfl⟩
    obtain ⟨fs, hfs⟩ : ∃ fs, setAll frs ((qs.length : Int) + 1) ys = fs := ⟨_, rfl⟩
    rw [hys, hfs] at hs
    rw [hys] at hyl
    have HCD := Lib.hid (hcd.out i hlt)
    have hnx : Hid ((frC (lkM W) p wl i = true → frL (i + 1) (lkM W) p wl = ys ++ [(i : Int)] ∧ setAll frs ((qs.length : Int) + 1) (ys ++ [(i : Int)]) = fs.set i ((qs.length : Int) + 1)) ∧ (¬ frC (lkM W) p wl i = true → frL (i + 1) (lkM W) p wl = ys)) := by
      refine ⟨fun h => ⟨by rw [frL_step, if_pos h, hys], by rw [setAll_snoc, hfs, Int.toNat_natCast]⟩, fun h => by rw [frL_step, if_neg h, hys]⟩
    have HFS := Lib.hid hfs
    clear hfs hys hn hlt
    iterate 80 (first | (with_reducible refine at_seq3 10 ?_) | (with_reducible refine at_seq2 10 ?_) | (with_reducible refine at_seq 10 ?_) | go_values | go_skip | go_guarded | go_step | go_upon | go_back | go_simp)
    refine tk_10 _ w1 bl bw bo bf P m go gf gl cl bn b5 Dl A cap L VA VB ca cb cells f W n ds _ X p (lkM W (-1, (i : Int))) ofs fs xs ys av bv qs i wl HLT.out hok hc5 hf5 HN.out hq rfl hof hw hs (Lib.hid fun a2 X2 hf2 hc2 ht2 => ?_) (Lib.hid fun a2 X2 hf2 hc2 ht2 => ?_) ⟨rfl, rfl, rfl, rfl, rfl, rfl, rfl, rfl, rfl, rfl, trivial⟩
    · have HT : Hid (TkF w1 X2 bl bw bo bf P go gf n f gl cl bn b5 Dl p ofs (setAll frs ((qs.length : Int) + 1) (frL (i + 1) (lkM W) p wl)) qs av bv xs (frL (i + 1) (lkM W) p wl)) := by
        have e := hnx.out.2 (fun h => hc2 (HCD.out.2 h))
        show TkF _ _ _ _ _ _ _ _ _ _ _ _ _ _ _ _ _ _ _ _ _ _ _ _
        rw [e, HFS.out]; exact ht2
      obtain ⟨U2, rfl, e1, e2, e3, e4, e5, e6, e46, e47, -⟩ := hf2.openTK
      unfold FrTK
      simp only [e1, e2, e3, e4, e5, e6, e46, e47]
      clear e1 e2 e3 e4 e5 e6 e46 e47 hf2 hc2 ht2
      repeat (first | ((with_reducible refine hgo.out _ _ bv ?_ ?_ ?_); (· exact HLT.out); (· exact ⟨rfl, rfl, rfl, rfl, rfl, rfl, rfl, rfl, rfl, rfl, trivial⟩); (· exact HT.out)) | go_values | go_skip | go_guarded | go_step | go_upon | go_back)
    · refine tk_13 _ w1 bl bw bo bf P go gf gl cl bn b5 Dl f n ds a2 X2 p ofs fs xs ys av bv qs i HLT.out hf5 hq hyl.out (fun c a d v w h => hQ c a d v w h) (Lib.hid ht2) (Lib.hid fun a3 X3 b3 hf3 ht3 => ?_) hf2
      have HT : Hid (TkF w1 X3 bl bw bo bf P go gf n f gl cl bn b5 Dl p ofs (setAll frs ((qs.length : Int) + 1) (frL (i + 1) (lkM W) p wl)) qs av b3 xs (frL (i + 1) (lkM W) p wl)) := by
        have e := hnx.out.1 (HCD.out.1 hc2)
        show TkF _ _ _ _ _ _ _ _ _ _ _ _ _ _ _ _ _ _ _ _ _ _ _ _
        rw [e.1, e.2]; exact ht3
      obtain ⟨U2, rfl, e1, e2, e3, e4, e5, e6, e46, e47, -⟩ := hf3.openTK
      unfold FrTK
      simp only [e1, e2, e3, e4, e5, e6, e46, e47]
      clear e1 e2 e3 e4 e5 e6 e46 e47 hf2 hc2 ht2 hf3 ht3
      repeat (first | ((with_reducible refine hgo.out _ _ b3 ?_ ?_ ?_); (· exact HLT.out); (· exact ⟨rfl, rfl, rfl, rfl, rfl, rfl, rfl, rfl, rfl, rfl, trivial⟩); (· exact HT.out)) | go_values | go_skip | go_guarded | go_step | go_upon | go_back)
  · obtain rfl : i = f := by omega
    have hif : ¬ (i : Int) < (i : Int) := by omega
    clear hn hlt
    repeat (first | ((with_reducible refine hout.out _ _ ?_ ?_ ?_); (· exact ⟨rfl, rfl, trivial⟩); (· rfl); (· exact hs.out)) | go_values | go_skip | go_guarded | go_step | go_upon | go_back)
end
end Go.Proofs.Ytogbanlfihabpaa
