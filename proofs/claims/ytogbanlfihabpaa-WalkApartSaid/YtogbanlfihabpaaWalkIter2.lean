/-
  The walk over a web's cells as an iterator: its beginning; the iterator's contract; walk.web.cells.
-/
import Derived.Test.YtogbanlfihabpaaWalkIter
import Derived.Deep.LoopGhost
namespace Go.Proofs.Ytogbanlfihabpaa
open Go.RowKit
attribute [local go_sem] cell_set
set_option maxRecDepth 100000
set_option linter.unusedVariables false

section
variable (Q : Exit → Act → World → Prop) (n0 l : Nat) (J : List Int → List Nat → World → Prop) (W0 : World) (D0 : List Nat) (b2 b3 P m : Nat) (A : Option Addr) (cap : Nat) (L : List (ByteArray × Int)) (VA VB : Option Addr) (ca cb : Nat) (cells : List Int) (f : Nat) (W : List (Pt × Pt))
theorem its_start {X : World} {n c : Nat} (hJ : Stab J) (h0 : J [] D0 X) (hw : WebS X P m A cap L VA VB ca cb cells f W) (hb : X.heap[b2]? = some (.cells #[.pointer (some ⟨P, 0, none⟩)] 58 (0, 0))) (hk : Kp [b3] W0 X) (hl : ∀ b ∈ b2 :: webQ P m A VA L cells, b < W0.heap.size ∧ b ∉ D0) (hn : n ≤ 5000) (hc : c < n) :
    ItS J W0 D0 [b3] b2 P m A cap L VA VB ca cb cells f W X.heap.size n D0 [(c : Int)] 0 0 (.slice (some ⟨X.heap.size + 1, 0, none⟩) 1 1) (((X.alloc (.cells (madeCells #[.bool false] n) 4)).setCell ⟨X.heap.size, c, none⟩ (.bool true)).alloc (.cells #[.int .i64 (c : Int)] 3)) := by
  have hz := hk.size
  have b1 : Below X.heap.size X (((X.alloc (.cells (madeCells #[.bool false] n) 4)).setCell ⟨X.heap.size, c, none⟩ (.bool true)).alloc (.cells #[.int .i64 (c : Int)] 3)) := by (repeat (first | exact Below.refl _ _ | (with_reducible refine Below.drew ?_) | (with_reducible refine Below.alloc ?_ (by (try simp); (try omega)) _) | (with_reducible refine Below.setCell ?_ (by (try simp); (try omega)) _) | (with_reducible refine Below.trans ?_ (Below.mono (by assumption) (by (try simp); (try omega))))))
  have hD := hJ.lt _ _ _ h0
  have hr : Row (X.alloc (.cells (madeCells #[.bool false] n) 4)) 4 1 (.slice (some ⟨X.heap.size, 0, none⟩) n n) n (seenB n []) :=
    ⟨by simp [seenB], .inr ⟨X.heap.size, n, _, rfl, heap_alloc_new X _, Nat.le_refl _, by unfold maxLen; omega, by simp [size_madeCells], by rw [toList_madeCells_one, seenB_nil]; simp⟩⟩
  refine ⟨hJ.keep _ _ _ _ h0 (fun b hb => b1.block b (hD b hb)) b1.size, hw.below b1, (b1.block _ (heap_lt hb)).trans hb, ?_, ?_, ⟨hz, fun h => by have := hD _ h; omega⟩, fun b hb => ?_, hl, Gr.refl _ _, (hk.mono (by simp)).thenBelow b1⟩
  · have h1 := (hr.set c (.bool true)).alloc (.cells #[.int .i64 (c : Int)] 3)
    rw [← seenB_snoc] at h1
    simpa using h1
  · refine WinI.one ?_
    have h1 := heap_alloc_new ((X.alloc (.cells (madeCells #[.bool false] n) 4)).setCell ⟨X.heap.size, c, none⟩ (.bool true)) (.cells #[.int .i64 (c : Int)] 3)
    rw [World.size_setCell, World.size_alloc] at h1
    exact h1
  · simp [ownB] at hb; subst hb
    exact ⟨by omega, fun h => by have := hD _ h; omega⟩
set_option maxHeartbeats 4000000 in
theorem ws_2 (a : Act) (X : World) (s : Pt) (n : Nat) (wl : List Int) (hJ : Hid (Stab J)) (hs : SigOk L) (hag : Hid (∀ i, i < cells.length → 0 ≤ cells.getD i 0 ∧ cells.getD i 0 < L.length)) (hok : Hid (NetOk (pnL L) cells f W)) (hc5 : cells.length ≤ 5000)
    (hn : n = cells.length) (hsn : s.1 < n) (hwl : walkL n (rowP (pnL L) cells (lkM W)) s.1 = wl)
    (hY : Hid (∀ pre x D W1, pre ++ [x] <+: wl → J pre D W1 → YieldAt Fence.wide (n0 - 1) Try.prog l (encI x) W1 fun e W' => e = .returned (.bool true) ∧ ∃ D', J (pre ++ [x]) D' W' ∧ Gr D W1 D' ∧ Kp D W1 W'))
    (h0 : Hid (J [] D0 X ∧ WebS X P m A cap L VA VB ca cb cells f W ∧ X.heap[b2]? = some (.cells #[.pointer (some ⟨P, 0, none⟩)] 58 (0, 0)) ∧ Kp [b3] W0 X ∧ ∀ b ∈ b2 :: webQ P m A VA L cells, b < W0.heap.size ∧ b ∉ D0)) (hp : Hid (PtBx X b3 s))
    (hret : Hid (∀ a' X' D', a'.defers = [] → a'.tmps.size = 92 → J wl D' X' → Gr D0 W0 D' → Kp ([b3] ++ D0) W0 X' → Q .ret a' X'))
    (hend : Hid (∀ a' X' D', a'.defers = [] → a'.tmps.size = 92 → J wl D' X' → Gr D0 W0 D' → Kp ([b3] ++ D0) W0 X' → Q .normal a' X'))
    (ha : FrN 92 [] [(0, .func (.yield l) #[] #[]), (1, .pointer (some ⟨b3, 0, none⟩)), (2, .pointer (some ⟨b2, 0, none⟩))] a) : (wsT 2).wp Try.prog Q a X := by
  obtain ⟨U, rfl, e0, e1, e2, -⟩ := ha.openWS
  unfold FrWS
  simp only [e0, e1, e2]
  clear e0 e1 e2 ha
  show (Code.seq _ _).wp _ _ _ _
  obtain ⟨x0, x1, hxl⟩ := hp.out.cells
  obtain ⟨s1, s2⟩ := s
  dsimp only at x0 x1 hsn hwl
  by_cases h1 : s1 < 0
  · have hw0 : Hid (wl = []) := by
      show _ = _
      rw [← hwl]; unfold walkL; rw [addC_neg h1]; exact walkF_done (by simp)
    go_wp2_with fail
    refine hret.out _ _ D0 rfl rfl (by rw [hw0.out]; exact h0.out.1) (Gr.refl _ _) (h0.out.2.2.2.1.mono (by simp))
  · obtain ⟨c, rfl⟩ := Int.eq_ofNat_of_zero_le (show 0 ≤ s1 by omega)
    have hcn : c < n := by omega
    have hn5 : n ≤ 5000 := by omega
    have HW0 : Hid (walkF (rowP (pnL L) cells (lkM W)) (n + 1) 0 [(c : Int)] = wl) := by
      show _ = _
      rw [← hwl]; unfold walkL
      have e : addC [] (c : Int) = [(c : Int)] := by unfold addC; rw [if_pos ⟨by omega, by simp⟩]; rfl
      rw [e]
    have HF0 : Hid (Fnd n [(c : Int)]) := ⟨by simp, by intro x hx; simp at hx; subst hx; omega⟩
    obtain ⟨p0, p1, p2, hPl⟩ := h0.out.2.1.fld
    have hb2 := h0.out.2.2.1
    have pb : X.cell? ⟨b2, 0, none⟩ = some (.pointer (some ⟨P, 0, none⟩)) := by simp [World.cell?, hb2]
    have hbl := heap_lt hb2
    rw [← hn] at p0
    have hcc : (c : Int) < (n : Int) := by omega
    have HN := Lib.hid hn
    obtain ⟨i0, hi0, hi1, hi2, hi3⟩ := info_parts bool_info
    have HS := Lib.hid (its_start J W0 D0 b2 b3 P m A cap L VA VB ca cb cells f W hJ.out h0.out.1 h0.out.2.1 h0.out.2.2.1 h0.out.2.2.2.1 h0.out.2.2.2.2 hn5 hcn)
    have HS2 : Hid (ItS J W0 D0 [b3] b2 P m A cap L VA VB ca cb cells f W X.heap.size n D0 [(c : Int)] 0 0 (.slice (some ⟨X.heap.size + 1, 0, none⟩) 1 1) ((X.alloc (.cells ((madeCells #[.bool false] n).setIfInBounds c (.bool true)) 4)).alloc (.cells #[.int .i64 (c : Int)] 3))) := by
      have := HS.out
      rw [World.setCell_alloc_new] at this
      exact this
    have hm0 : (X.alloc (.cells (madeCells #[.bool false] n) 4)).cell? ⟨X.heap.size, c, none⟩ = some (.bool false) := by
      have hr : Row (X.alloc (.cells (madeCells #[.bool false] n) 4)) 4 1 (.slice (some ⟨X.heap.size, 0, none⟩) n n) n (seenB n []) :=
        ⟨by simp [seenB], .inr ⟨X.heap.size, n, _, rfl, heap_alloc_new X _, Nat.le_refl _, by unfold maxLen; omega, by simp [size_madeCells], by rw [toList_madeCells_one, seenB_nil]; simp⟩⟩
      exact (hr.cellAt c (by omega)).trans (seenB_at [] hcn)
    clear hn hwl hb2 h1
    go_upto_region 4 with (at_make; refine wpList_make_row _ rfl _ _ _ rfl _ i0 _ (by rfl) hi0 hi1 hi2 (by rfl) .i64 .i64 n (by rfl) (by rfl) (by rw [hi3]; omega) (by omega) ?_)
    go_upto_region 5 with fail
    go_upto_region 6 with fail
    refine wp_loop_ghost (fun m' a' X' => ∃ k D fl v, m' = n - k ∧ k ≤ fl.length ∧ Fnd n fl ∧ walkF (rowP (pnL L) cells (lkM W)) (n + 1 - k) k fl = wl ∧ FrN 92 [] [(0, .func (.yield l) #[] #[]), (1, .pointer (some ⟨b3, 0, none⟩)), (2, .pointer (some ⟨b2, 0, none⟩)), (4, .slice (some ⟨X.heap.size, 0, none⟩) n n), (5, v)] a' ∧ ItS J W0 D0 [b3] b2 P m A cap L VA VB ca cb cells f W X.heap.size n D fl k k v X') n ⟨0, D0, [(c : Int)], .slice (some ⟨X.heap.size + 1, 0, none⟩) 1 1, by omega, by simp, HF0.out, HW0.out, ⟨rfl, rfl, rfl, rfl, rfl, rfl, rfl, trivial⟩, HS2.out⟩ ?_
    rintro m' a2 X2 ⟨k, D, fl, v, rfl, hk, hf, hw, hfr, hit⟩
    refine ws_6 _ n0 l J W0 D0 [b3] b2 b3 P m A cap L VA VB ca cb cells f W X.heap.size n a2 X2 D fl wl k v hJ hs hag hok hc5 HN.out hk hf hw hY (Lib.hid fun a3 X3 D3 fl3 v3 hlt hfr3 hit3 hk3 hf3 hw3 => ?_) (Lib.hid fun a3 X3 hdf hsz hj hkp => ?_) (Lib.hid hit) hfr
    · have := hf.len
      exact ⟨n - (k + 1), by omega, k + 1, D3, fl3, v3, rfl, hk3, hf3, hw3, hfr3, hit3⟩
    · exact hend.out a3 X3 D hdf hsz hj hit.gr hkp
end
set_option maxHeartbeats 4000000 in
/-- The iterator. -/
theorem cells1_calls (n0 l : Nat) (J : List Int → List Nat → World → Prop) (W0 : World) (D0 : List Nat) (b2 b3 P m : Nat) (A : Option Addr) (cap : Nat) (L : List (ByteArray × Int)) (VA VB : Option Addr) (ca cb : Nat) (cells : List Int) (f : Nat) (W : List (Pt × Pt)) (p : Pt)
    (hJ : Stab J) (hs : SigOk L) (hag : ∀ i, i < cells.length → 0 ≤ cells.getD i 0 ∧ cells.getD i 0 < L.length) (hok : NetOk (pnL L) cells f W) (hc5 : cells.length ≤ 5000) (hp : isPt (pnL L) cells f p = true)
    (hY : ∀ pre x D W1, pre ++ [x] <+: wlk (pnL L) cells (lkM W) p → J pre D W1 → YieldAt Fence.wide (n0 - 1) Try.prog l (encI x) W1 fun e W' => e = .returned (.bool true) ∧ ∃ D', J (pre ++ [x]) D' W' ∧ Gr D W1 D' ∧ Kp D W1 W')
    (h0 : J [] D0 W0) (hD : ∀ b ∈ D0, b ∉ b2 :: webQ P m A VA L cells ∧ b ≠ b3) (h3 : b3 ∉ b2 :: webQ P m A VA L cells) (hpb : PtBx W0 b3 p) (hb2 : W0.heap[b2]? = some (.cells #[.pointer (some ⟨P, 0, none⟩)] 58 (0, 0))) (hw : WebS W0 P m A cap L VA VB ca cb cells f W) :
    Calls Try.prog 31 #[.func (.yield l) #[] #[], .pointer (some ⟨b3, 0, none⟩), .pointer (some ⟨b2, 0, none⟩)] W0 fun e W' => (∃ v, e = .returned v) ∧ ∃ D', J (wlk (pnL L) cells (lkM W) p) D' W' ∧ Gr D0 W0 D' ∧ Kp ([b3] ++ D0) W0 W' := by
  obtain ⟨wl, hwl⟩ : ∃ wl, wlk (pnL L) cells (lkM W) p = wl := ⟨_, rfl⟩
  rw [hwl] at hY ⊢
  have HWL : Hid (walkL cells.length (rowP (pnL L) cells (lkM W)) (startP (lkM W) p).1 = wl) := hwl
  have hql : ∀ b ∈ b2 :: webQ P m A VA L cells, b < W0.heap.size ∧ b ∉ D0 := fun b hb => by
    refine ⟨?_, fun hd => (hD b hd).1 hb⟩
    rcases List.mem_cons.1 hb with rfl | hb
    · exact heap_lt hb2
    · exact hw.lt b hb
  have hst := isPt_lt (startP_is hok hp)
  have hq := lkM_eq hok hp
  have hlook := fun Z (hz : WebS Z P m A cap L VA VB ca cb cells f W) => hz.look hok hp
  have HSP : Hid (startP (lkM W) p = if p.1 < 0 then lkM W p else p) := rfl
  have H := Lib.hid (And.intro h0 (And.intro hw (And.intro hb2 (And.intro hql hst))))
  have HP := Lib.hid hpb
  have HY := Lib.hid hY
  obtain ⟨x0, x1, hxl⟩ := hpb.cells
  have hret : Hid (∀ a' X' D', a'.defers = [] → a'.tmps.size = 92 → J wl D' X' → Gr D0 W0 D' → Kp ([b3] ++ D0) W0 X' → bodyPost Try.prog Try.f31 (fun e W' => (∃ v, e = .returned v) ∧ ∃ D', J wl D' W' ∧ Gr D0 W0 D' ∧ Kp ([b3] ++ D0) W0 W') .ret a' X') := fun a' X' D' hdf _ h1 h2 h3 => bodyPost_ret (results_none rfl _ _ _) hdf ⟨⟨_, rfl⟩, D', h1, h2, h3⟩
  have hend : Hid (∀ a' X' D', a'.defers = [] → a'.tmps.size = 92 → J wl D' X' → Gr D0 W0 D' → Kp ([b3] ++ D0) W0 X' → bodyPost Try.prog Try.f31 (fun e W' => (∃ v, e = .returned v) ∧ ∃ D', J wl D' W' ∧ Gr D0 W0 D' ∧ Kp ([b3] ++ D0) W0 W') .normal a' X') := fun a' X' D' hdf _ h1 h2 h3 => bodyPost_end (results_none rfl _ _ _) hdf ⟨⟨_, rfl⟩, D', h1, h2, h3⟩
  have HD3 : Hid (b3 ∉ D0 ∧ b3 ∉ b2 :: webQ P m A VA L cells) := ⟨fun h => (hD b3 h).2 rfl, h3⟩
  obtain ⟨q, hqe⟩ : ∃ q, lkM W p = q := ⟨_, rfl⟩
  rw [hqe] at hlook HSP
  obtain ⟨p1, p2⟩ := p
  obtain ⟨q1, q2⟩ := q
  dsimp only at x0 x1 HSP
  obtain ⟨w0, w1, w2, hPl⟩ := hw.fld
  have hbl := heap_lt hb2
  have pb : W0.cell? ⟨b2, 0, none⟩ = some (.pointer (some ⟨P, 0, none⟩)) := by simp [World.cell?, hb2]
  have z0 : W0.frozen? ⟨b3, 0, none⟩ = false := by have h : W0.heap[b3]? = _ := HP.out; simp [World.frozen?, h]
  have z1 : W0.frozen? ⟨b3, 1, none⟩ = false := by have h : W0.heap[b3]? = _ := HP.out; simp [World.frozen?, h]
  have HLK := Lib.hid (hlook W0.drew (hw.keep (fun _ _ => rfl) (Nat.le_refl _)))
  have hag' := Lib.hid hag
  have hok' := Lib.hid hok
  have hJ' := Lib.hid hJ
  clear hJ hag hok hY h0 hD hpb hb2 hw hql hq hlook hp hwl h3 hqe hst
  go_enter Try.func31, Try.ntmps31
  by_cases hneg : p1 < 0
  · have HE : Hid (startP (lkM W) (p1, p2) = (q1, q2)) := by show _ = _; rw [HSP.out, if_pos hneg]
    go_upto_region 1 with fail
    have hlk := HLK.out
    simp only [encPt] at hlk
    (refine region_tail 6 (by kernel_rfl) (by kernel_rfl) ?_; simp only [List.take_succ_cons, List.take_zero, List.drop_succ_cons, List.drop_zero]; repeat still_step; try refine wpStill_nil ?_)
    iterate 80 (first | (with_reducible refine at_seq3 2 ?_) | (with_reducible refine at_seq2 2 ?_) | (with_reducible refine at_seq 2 ?_) | go_values | go_skip | go_guarded | go_step | go_upon | go_back | go_simp)
    refine ws_2 _ n0 l J W0 D0 b2 b3 P m A cap L VA VB ca cb cells f W _ _ (q1, q2) cells.length wl hJ' hs hag' hok' hc5 rfl (by have := H.out.2.2.2.2; rw [HE.out] at this; exact this) (by have := HWL.out; rw [HE.out] at this; exact this) HY (Lib.hid ⟨?_, ?_, ?_, ?_, H.out.2.2.2.1⟩) (Lib.hid ?_) hret hend ⟨rfl, rfl, rfl, rfl, rfl, trivial⟩
    · refine hJ'.out.keep _ _ _ _ H.out.1 (fun b hb => ?_) (by simp [World.drew])
      have hne : b ≠ b3 := fun e => HD3.out.1 (e ▸ hb)
      exact (Below.heap_setCell _ _ _ b hne).trans (Below.heap_setCell _ _ _ b hne)
    · refine H.out.2.1.keep (fun b hb => ?_) (by simp [World.drew])
      have hne : b ≠ b3 := fun e => HD3.out.2 (by rw [← e]; simp [hb])
      exact (Below.heap_setCell _ _ _ b hne).trans (Below.heap_setCell _ _ _ b hne)
    · have hne : b2 ≠ b3 := fun e => HD3.out.2 (by rw [← e]; simp)
      exact ((Below.heap_setCell _ _ _ b2 hne).trans (Below.heap_setCell _ _ _ b2 hne)).trans H.out.2.2.1
    · exact ((Kp.refl [b3] W0).drew.setCell (.inl (by simp)) _).setCell (.inl (by simp)) _
    · have h : W0.heap[b3]? = _ := HP.out
      change ((W0.setCell ⟨b3, 0, none⟩ (.int .i64 q1)).setCell ⟨b3, 1, none⟩ (.int .i64 q2)).heap[b3]? = _
      simp [World.setCell, Array.getElem?_modify, h]
  · have HE : Hid (startP (lkM W) (p1, p2) = (p1, p2)) := by show _ = _; rw [HSP.out, if_neg hneg]
    iterate 80 (first | (with_reducible refine at_seq3 2 ?_) | (with_reducible refine at_seq2 2 ?_) | (with_reducible refine at_seq 2 ?_) | go_values | go_skip | go_guarded | go_step | go_upon | go_back | go_simp)
    refine ws_2 _ n0 l J W0 D0 b2 b3 P m A cap L VA VB ca cb cells f W _ W0 (p1, p2) cells.length wl hJ' hs hag' hok' hc5 rfl (by have := H.out.2.2.2.2; rw [HE.out] at this; exact this) (by have := HWL.out; rw [HE.out] at this; exact this) HY (Lib.hid ⟨H.out.1, H.out.2.1, H.out.2.2.1, Kp.refl _ _, H.out.2.2.2.1⟩) HP hret hend ⟨rfl, rfl, rfl, rfl, rfl, trivial⟩
/-- The iterator's contract. -/
theorem cells_seq (n0 : Nat) (b2 b3 P m : Nat) (A : Option Addr) (cap : Nat) (L : List (ByteArray × Int)) (VA VB : Option Addr) (ca cb : Nat) (cells : List Int) (f : Nat) (W : List (Pt × Pt)) (p : Pt) (w : World)
    (hs : SigOk L) (hag : ∀ i, i < cells.length → 0 ≤ cells.getD i 0 ∧ cells.getD i 0 < L.length) (hok : NetOk (pnL L) cells f W) (hc5 : cells.length ≤ 5000) (hp : isPt (pnL L) cells f p = true)
    (h3 : b3 ∉ b2 :: webQ P m A VA L cells) (hpb : PtBx w b3 p) (hb2 : w.heap[b2]? = some (.cells #[.pointer (some ⟨P, 0, none⟩)] 58 (0, 0))) (hw : WebS w P m A cap L VA VB ca cb cells f W) :
    SeqD n0 Try.prog 31 #[.pointer (some ⟨b3, 0, none⟩), .pointer (some ⟨b2, 0, none⟩)] encI (b2 :: webQ P m A VA L cells) [b3] (wlk (pnL L) cells (lkM W) p) w :=
  fun l J D W0 hb hJ hY h0 hD => callsIn_wide.2 (cells1_calls n0 l J W0 D b2 b3 P m A cap L VA VB ca cb cells f W p hJ hs hag hok hc5 hp hY h0 (fun b hb => ⟨(hD b hb).1, by simpa using (hD b hb).2⟩) h3 ((hb.block _ (heap_lt hpb)).trans hpb) ((hb.block _ (heap_lt hb2)).trans hb2) (hw.below hb))
/-- walk.web.cells. -/
theorem web_cells (P : Nat) (p1 p2 : Int) (w : World) :
    Calls Try.prog 23 #[.pointer (some ⟨P, 0, none⟩), .agg #[.int .i64 p1, .int .i64 p2]] w fun e w' => e = .returned (.func (.func 31) #[] #[.pointer (some ⟨w.heap.size + 1, 0, none⟩), .pointer (some ⟨w.heap.size, 0, none⟩)]) ∧
      PtBx w' (w.heap.size + 1) (p1, p2) ∧ w'.heap[w.heap.size]? = some (.cells #[.pointer (some ⟨P, 0, none⟩)] 58 (0, 0)) ∧ Below w.heap.size w w' := by
  go_enter Try.func23, Try.ntmps23
  go_wp2
  go_ret
  refine ⟨rfl, ?_, (Below.heap_alloc _ _ _ (by simp)).trans (heap_alloc_new w _), by (repeat (first | exact Below.refl _ _ | (with_reducible refine Below.drew ?_) | (with_reducible refine Below.alloc ?_ (by (try simp); (try omega)) _) | (with_reducible refine Below.setCell ?_ (by (try simp); (try omega)) _) | (with_reducible refine Below.trans ?_ (Below.mono (by assumption) (by (try simp); (try omega))))))⟩
  have := heap_alloc_new (w.alloc (.cells #[.pointer (some ⟨P, 0, none⟩)] 58)) (.cells #[.int .i64 p1, .int .i64 p2] 41)
  rw [World.size_alloc] at this
  exact this
end Go.Proofs.Ytogbanlfihabpaa
