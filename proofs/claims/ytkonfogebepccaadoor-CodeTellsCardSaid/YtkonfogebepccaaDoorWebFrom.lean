/-
  Contracts of (*code.web).from's find, (*code.web).mark.
-/
import Derived.Test.YtkonfogebepccaaDoorWebLook
import Derived.Deep.RegionHeld3
import Derived.Deep.DeepCutAuto
namespace Go.Proofs.YtkonfogebepccaaDoor
open Go.RowKit
attribute [local go_sem] cell_set
set_option maxRecDepth 100000
set_option linter.unusedVariables false

/-- While the walk goes on: what is found, where; the list (v) in its box Bl; the web in its box Bw. -/
structure FS (w0 : World) (Bw Bl P f : Nat) (G : Nat → Nat) (A : Option Addr) (n ca : Nat) (pn : Int → Nat) (cs : List Int) (fr : Nat) (vC vD : Value) (Lk : Pt → Pt) (v : Value) (l : List Int) (X : World) : Prop where
  web : Web X P f G A n ca pn cs fr vC vD n Lk
  rd : Row X 3 1 vD n (ivals (fdOf n l))
  bw : X.heap[Bw]? = some (.cells #[.pointer (some ⟨P, 0, none⟩)] 133 (0, 0))
  bl : X.heap[Bl]? = some (.cells #[v] 61 (0, 0))
  rl : Row X 3 1 v l.length (ivals l)
  fl : Fnd n l
  kp : Kp (ownB vD) w0 X
  ll : w0.heap.size ≤ Bl
  lr : ∀ b ∈ ownB v, w0.heap.size ≤ b
  ld : ∀ b ∈ ownB vD, b < w0.heap.size
section
variable {w0 X X' : World} {Bw Bl P f : Nat} {G : Nat → Nat} {A : Option Addr} {n ca : Nat} {pn : Int → Nat} {cs : List Int} {fr : Nat} {vC vD v v' : Value} {Lk : Pt → Pt} {l l' : List Int} {m : Nat}
theorem Web.kp (h : Web X P f G A n ca pn cs fr vC vD m Lk) {F : List Nat} (hk : Kp F X X') (hF : ∀ b ∈ F, ∃ cur e, X.heap[b]? = some (.cells cur e (0, 0)) ∧ e ≠ 136 ∧ e ≠ 70 ∧ e ≠ 83) : Web X' P f G A n ca pn cs fr vC vD m Lk :=
  h.keep fun b hb => hk.block b (h.lt b hb) fun hm => by
    obtain ⟨cur, e, hc, he⟩ := hF b hm
    exact h.noInt hb hc he
theorem FS.cells (h : FS w0 Bw Bl P f G A n ca pn cs fr vC vD Lk v l X) : X.cell? ⟨Bw, 0, none⟩ = some (.pointer (some ⟨P, 0, none⟩)) ∧ X.cell? ⟨Bl, 0, none⟩ = some v ∧ X.frozen? ⟨Bl, 0, none⟩ = false ∧ Bw < X.heap.size ∧ Bl < X.heap.size := by
  have h1 := h.bw
  have h2 := h.bl
  refine ⟨?_, ?_, ?_, heap_lt h1, heap_lt h2⟩ <;> simp [World.cell?, World.frozen?, h1, h2]
theorem FS.grow (h : FS w0 Bw Bl P f G A n ca pn cs fr vC vD Lk v l X) (hb : Below X.heap.size X X') : FS w0 Bw Bl P f G A n ca pn cs fr vC vD Lk v l X' :=
  ⟨h.web.below hb, h.rd.keep fun b hb2 => hb.block b (h.rd.lt b hb2), (hb.block Bw (heap_lt h.bw)).trans h.bw, (hb.block Bl (heap_lt h.bl)).trans h.bl, h.rl.keep fun b hb2 => hb.block b (h.rl.lt b hb2), h.fl,
    h.kp.thenBelow hb, h.ll, h.lr, h.ld⟩
theorem FS.dAt (h : FS w0 Bw Bl P f G A n ca pn cs fr vC vD Lk v l X) {c : Nat} (hc : c < n) : ∃ g cap, vD = .slice (some ⟨g, 0, none⟩) n cap ∧ g < X.heap.size ∧ X.cell? ⟨g, c, none⟩ = some (.int .i64 ((fdOf n l).getD c 0)) ∧ X.frozen? ⟨g, c, none⟩ = false := by
  obtain ⟨g, cap, cur, rfl, hg, hle, _⟩ := h.rd.some_ (by omega)
  refine ⟨g, cap, rfl, heap_lt hg, ?_, h.rd.frozenAt _⟩
  rw [h.rd.cellAt c (by omega)]
  have := fdOf_len n l
  simp [ivals, List.getD_eq_getElem?_getD, this, hc]
theorem FS.push (h : FS w0 Bw Bl P f G A n ca pn cs fr vC vD Lk v l X) {W1 w5 : World} {c : Int} {o : Obj} (hf : Fnd n (l ++ [c])) (k1 : Kp (ownB vD) X W1) (rd1 : Row W1 3 1 vD n (ivals (fdOf n (l ++ [c]))))
    (r5 : Row w5 3 1 v' (l.length + 1) (ivals l ++ [.int .i64 c])) (k5 : Kp (ownB v) (W1.alloc o) w5) (o5 : ownB v' = ownB v ∨ ownB v' = [(W1.alloc o).heap.size]) :
    w5.cell? ⟨Bl, 0, none⟩ = some v ∧ w5.frozen? ⟨Bl, 0, none⟩ = false ∧ Bl < w5.heap.size ∧ FS w0 Bw Bl P f G A n ca pn cs fr vC vD Lk v' (l ++ [c]) (w5.setCell ⟨Bl, 0, none⟩ v') := by
  have hs1 := k1.size
  have kk : Kp (ownB vD ++ ownB v) X w5 := (((k1.mono fun b hb => List.mem_append_left _ hb).alloc o)).trans k5 fun b hb => .inl (List.mem_append_right _ hb)
  have hdv : ∀ b ∈ ownB vD, b ∉ ownB v := fun b h1 h2 => by have := h.ld b h1; have := h.lr b h2; omega
  have hB : w5.heap[Bl]? = some (.cells #[v] 61 (0, 0)) := (kk.block Bl (heap_lt h.bl) fun hm => by
    rcases List.mem_append.1 hm with hm | hm
    · obtain ⟨cur, hc⟩ := h.rd.type Bl hm; exact type_ne hc h.bl (by decide) rfl
    · obtain ⟨cur, hc⟩ := h.rl.type Bl hm; exact type_ne hc h.bl (by decide) rfl).trans h.bl
  have kf : Kp (ownB vD ++ ownB v ++ [Bl]) X (w5.setCell ⟨Bl, 0, none⟩ v') := (kk.mono (fun b hb => List.mem_append_left _ hb)).setCell (p := ⟨Bl, 0, none⟩) (.inl (by simp)) _
  have hF : ∀ b ∈ ownB vD ++ ownB v ++ [Bl], ∃ cur e, X.heap[b]? = some (.cells cur e (0, 0)) ∧ e ≠ 136 ∧ e ≠ 70 ∧ e ≠ 83 ∧ e ≠ 133 := fun b hb => by
    rcases List.mem_append.1 hb with hb | hb
    · rcases List.mem_append.1 hb with hb | hb
      · obtain ⟨cur, hc⟩ := h.rd.type b hb; exact ⟨cur, _, hc, by decide⟩
      · obtain ⟨cur, hc⟩ := h.rl.type b hb; exact ⟨cur, _, hc, by decide⟩
    · rw [List.mem_singleton] at hb; subst hb; exact ⟨_, _, h.bl, by decide⟩
  refine ⟨by simp [World.cell?, hB], by simp [World.frozen?, hB], heap_lt hB, h.web.kp kf fun b hb => ?_, ?_, ?_, ?_, ?_, hf, h.kp.trans kf fun b hb => ?_, h.ll, ?_, h.ld⟩
  · obtain ⟨cur, e, h1, h2, h3, h4, _⟩ := hF b hb
    exact ⟨cur, e, h1, h2, h3, h4⟩
  · refine ((rd1.alloc o).kp k5 hdv).keep fun b hb => Below.heap_setCell _ _ _ b ?_
    have := h.ld b hb; have := h.ll
    show b ≠ Bl
    omega
  · refine (kf.block Bw (heap_lt h.bw) fun hm => ?_).trans h.bw
    obtain ⟨cur, e, h1, _, _, _, h5⟩ := hF Bw hm
    exact type_ne h.bw h1 h5.symm rfl
  · simp [World.setCell, Array.getElem?_modify, hB]
  · have e : ivals (l ++ [c]) = ivals l ++ [.int .i64 c] := by simp [ivals]
    rw [e, List.length_append, List.length_singleton]
    refine r5.keep fun b hb => Below.heap_setCell _ _ _ b ?_
    obtain ⟨cur, hc⟩ := r5.type b hb
    exact type_ne hc hB (by decide)
  · rcases List.mem_append.1 hb with hb | hb
    · rcases List.mem_append.1 hb with hb | hb
      · exact .inl hb
      · exact .inr (h.lr b hb)
    · rw [List.mem_singleton] at hb; subst hb; exact .inr h.ll
  · intro b hb
    rcases o5 with e | e
    · rw [e] at hb; exact h.lr b hb
    · rw [e] at hb; simp at hb; have := h.kp.size; omega
end
section
variable (w0 : World) (Bw Bl P f : Nat) (G : Nat → Nat) (A : Option Addr) (n ca : Nat) (pn : Int → Nat) (cs : List Int) (fr : Nat) (vC vD v : Value) (Lk : Pt → Pt) (l : List Int) (w : World)
set_option maxHeartbeats 1000000 in
theorem find_neg (c : Int) (hc : c < 0) : Calls Tryd.prog 104 #[.int .i64 c, .pointer (some ⟨Bw, 0, none⟩), .pointer (some ⟨Bl, 0, none⟩)] w fun e w' => e = .returned (.tuple #[]) ∧ Below w.heap.size w w' := by
  have h1 : ¬ 0 ≤ c := by omega
  go_enter Tryd.func104, Tryd.ntmps104
  go_wp2
  exact bodyPost_end (results_none rfl _ _ _) rfl ⟨rfl, Below.refl _ _⟩
set_option maxHeartbeats 1000000 in
theorem find_old (c : Nat) (hc : c < n) (H : Hid (FS w0 Bw Bl P f G A n ca pn cs fr vC vD Lk v l w)) (h0 : ¬ (fdOf n l).getD c 0 < 0) (hn : n ≤ 10000) : Calls Tryd.prog 104 #[.int .i64 (c : Int), .pointer (some ⟨Bw, 0, none⟩), .pointer (some ⟨Bl, 0, none⟩)] w fun e w' => e = .returned (.tuple #[]) ∧ Below w.heap.size w w' := by
  obtain ⟨b0, b1, b2, b3, b4⟩ := H.out.cells
  obtain ⟨c0, c1, c2, c3, hPl⟩ := H.out.web.cells
  obtain ⟨g, cap, rfl, hg, g0, g1⟩ := H.out.dAt hc
  clear b1 b2 b4 c0 c1 c2 g1
  generalize (fdOf n l).getD c 0 = x at h0 g0
  go_enter Tryd.func104, Tryd.ntmps104
  go_wp2
  exact bodyPost_end (results_none rfl _ _ _) rfl ⟨rfl, Below.refl _ _⟩
set_option maxHeartbeats 2000000 in
theorem find_new (c : Nat) (hc : c < n) (H : Hid (FS w0 Bw Bl P f G A n ca pn cs fr vC vD Lk v l w)) (h0 : (fdOf n l).getD c 0 < 0) (hn : n ≤ 10000) : Calls Tryd.prog 104 #[.int .i64 (c : Int), .pointer (some ⟨Bw, 0, none⟩), .pointer (some ⟨Bl, 0, none⟩)] w fun e w' => e = .returned (.tuple #[]) ∧ ∃ v', FS w0 Bw Bl P f G A n ca pn cs fr vC vD Lk v' (addC l (c : Int)) w' := by
  obtain ⟨i0, hi0, hi1, hi2, hi3⟩ := info_parts int_info
  obtain ⟨b0, b1, b2, b3, b4⟩ := H.out.cells
  obtain ⟨c0, c1, c2, c3, hPl⟩ := H.out.web.cells
  obtain ⟨ea, ef⟩ := addC_fd hc h0
  have hfa : Hid (Fnd n (l ++ [(c : Int)])) := ea ▸ H.out.fl.add (by omega)
  have hlen := H.out.fl.len
  obtain ⟨V, cp, rfl, hcp⟩ := H.out.rl.len
  obtain ⟨g, cap, rfl, hg, g0, g1⟩ := H.out.dAt hc
  have HK1 : Hid (Row (w.drew.setCell ⟨g, c, none⟩ (.int .i64 (l.length : Int))) 3 1 (.slice (some ⟨g, 0, none⟩) n cap) n (ivals (fdOf n (l ++ [(c : Int)])))) := by
    have h1 := (H.out.rd.drew).set c (.int .i64 (l.length : Int))
    have e : (ivals (fdOf n l)).set c (.int .i64 (l.length : Int)) = ivals (fdOf n (l ++ [(c : Int)])) := by
      rw [← ea, ef]; simp [ivals, List.map_set]
    rw [e] at h1
    exact h1
  have HE := Lib.hid ea
  have hgl : g ≠ Bl := fun e => by
    subst e
    obtain ⟨cur, h1⟩ := H.out.rd.type g (by simp [ownB])
    exact type_ne h1 H.out.bl (by decide) rfl
  clear c0 c1 c2 ea ef
  generalize (fdOf n l).getD c 0 = x at h0 g0
  go_enter Tryd.func104, Tryd.ntmps104
  go_wp2_with fail
  (refine region_tail 8 (by kernel_rfl) (by kernel_rfl) ?_; simp only [List.take_succ_cons, List.take_zero, List.drop_succ_cons, List.drop_zero]; repeat still_step; try refine wpStill_nil ?_)
  go_upto_region 2 with fail
  refine absW (fun Y => Kp [g] w Y ∧ Row Y 3 1 (.slice (some ⟨g, 0, none⟩) n cap) n (ivals (fdOf n (l ++ [(c : Int)])))) ⟨((Kp.refl _ _).drew.setCell (p := ⟨g, c, none⟩) (.inl (by simp)) _), HK1.out⟩ ?_
  rintro Y ⟨hkY, hrY⟩
  have y1 := (hkY.cell (p := ⟨Bl, 0, none⟩) b4 (by simp; exact hgl.symm)).trans b1
  have yl : Bl < Y.heap.size := by have := hkY.size; omega
  have HRow : Hid (Row (Y.alloc (.cells #[.int .i64 (c : Int)] 3)) 3 1 (.slice V l.length cp) l.length (ivals l)) := (H.out.rl.kp hkY fun b hb hm => by
    rw [List.mem_singleton] at hm; subst hm
    have h1 := H.out.lr b hb; have h2 := H.out.ld b (by simp [ownB]); omega).alloc _
  have HSrc : Hid (Src (Y.alloc (.cells #[.int .i64 (c : Int)] 3)) (some ⟨Y.heap.size, 0, none⟩) 1 1 [.int .i64 (c : Int)]) :=
    Src.block (cs := #[.int .i64 (c : Int)]) (t := 3) (fr := (0, 0)) (heap_alloc_new Y _) rfl (by simp [Value.oneCell'])
  have HB63 : l.length + 1 ≤ maxLen := by simp only [maxLen]; omega
  have HB47 : (l.length + 1) * 8 ≤ 140737488355328 := by omega
  have HY := Lib.hid (And.intro hkY hrY)
  clear hkY hrY b1 b0 b2 b3 b4 c3 hPl hg g0 g1 HK1
  go_wp2_with (at_builtin; go_loud (refine inPlain rfl (wpo_row_append _ _ _ rfl i0 _ 8 Tryd.underlying61 hi0 hi1 hi2 hi3 rfl rfl HRow.out _ 1 1 rfl [.int .i64 (c : Int)] HSrc.out HB63 HB47 ?_)); intro sv5 w5 r5 k5 o5; obtain ⟨V5, cp5, rfl, hc5⟩ := r5.len
               go_loud (obtain ⟨q0, q1, q2, hA5⟩ := H.out.push hfa.out HY.out.1 HY.out.2 r5 k5 o5); have HA5 := Lib.hid hA5)
  exact bodyPost_end (results_none rfl _ _ _) rfl ⟨rfl, _, by rw [HE.out]; exact HA5.out⟩
theorem find_is (c : Int) (hc : c < n) (H : Hid (FS w0 Bw Bl P f G A n ca pn cs fr vC vD Lk v l w)) (hn : n ≤ 10000) : Calls Tryd.prog 104 #[.int .i64 c, .pointer (some ⟨Bw, 0, none⟩), .pointer (some ⟨Bl, 0, none⟩)] w fun e w' => e = .returned (.tuple #[]) ∧ ∃ v', FS w0 Bw Bl P f G A n ca pn cs fr vC vD Lk v' (addC l c) w' := by
  by_cases h : c < 0
  · refine (find_neg Bw Bl w c h).mono ?_
    rintro e w1 ⟨rfl, hb⟩
    exact ⟨rfl, v, by rw [addC_neg h]; exact H.out.grow hb⟩
  · obtain ⟨c, rfl⟩ := Int.eq_ofNat_of_zero_le (show 0 ≤ c by omega)
    by_cases h0 : (fdOf n l).getD c 0 < 0
    · exact find_new w0 Bw Bl P f G A n ca pn cs fr vC vD v Lk l w c (by omega) H h0 hn
    · refine (find_old w0 Bw Bl P f G A n ca pn cs fr vC vD v Lk l w c (by omega) H h0 hn).mono ?_
      rintro e w1 ⟨rfl, hb⟩
      exact ⟨rfl, v, by rw [addC_no (by omega) h0]; exact H.out.grow hb⟩
set_option maxHeartbeats 1000000 in
theorem mark_neg (k : Nat) (hk : k ≤ 10000) : Calls Tryd.prog 105 #[.pointer (some ⟨P, 0, none⟩), .agg #[.int .i64 (-1), .int .i64 (k : Int)]] w fun e w' => e = .returned (.int .i64 (-1 - (k : Int))) ∧ Below w.heap.size w w' := by
  have h1 : IntKind.i64.wrap (-1 - (k : Int)) = -1 - (k : Int) := IntWalk.i64_in _ (by omega)
  go_enter Tryd.func105, Tryd.ntmps105
  go_wp2
  go_ret
  exact ⟨by first | rfl | (congr 2), (Below.refl _ _).alloc (Nat.le_refl _) _⟩
set_option maxHeartbeats 1000000 in
theorem mark_cell (c k m : Nat) (fd : List Int) (hW : Hid (Web w P f G A n ca pn cs fr vC vD m Lk)) (hd : Hid (Row w 3 1 vD n (ivals fd))) (hfl : fd.length = n) (hc : c < n) (hk : k ≤ 10000) (h0 : -1 ≤ fd.getD c 0) (h1 : fd.getD c 0 ≤ 10000) : Calls Tryd.prog 105 #[.pointer (some ⟨P, 0, none⟩), .agg #[.int .i64 (c : Int), .int .i64 (k : Int)]] w fun e w' => e = .returned (.int .i64 (8 * fd.getD c 0 + k)) ∧ Below w.heap.size w w' := by
  obtain ⟨c0, c1, c2, c3, hPl⟩ := hW.out.cells
  obtain ⟨g, cap, cur, rfl, hg, hle, _⟩ := hd.out.some_ (by omega)
  have g0 : w.cell? ⟨g, c, none⟩ = some (.int .i64 (fd.getD c 0)) := by
    rw [hd.out.cellAt c (by omega)]
    simp [ivals, List.getD_eq_getElem?_getD, hfl, hc]
  have hgl := heap_lt hg
  clear c0 c1 c2 hg hle
  generalize fd.getD c 0 = x at *
  have h2 : IntKind.i64.wrap (8 * x) = 8 * x := IntWalk.i64_in _ (by omega)
  have h3 : IntKind.i64.wrap (8 * x + k) = 8 * x + k := IntWalk.i64_in _ (by omega)
  go_enter Tryd.func105, Tryd.ntmps105
  go_wp2_with fail
  (refine region_still (by kernel_rfl) (by kernel_rfl) ?_; repeat still_step; try refine wpStill_nil ?_)
  go_wp2
  go_ret
  exact ⟨by first | rfl | (congr 2), by (repeat (first | exact Below.refl _ _ | (with_reducible refine Below.drew ?_) | (with_reducible refine Below.alloc ?_ (by (try simp); (try omega)) _) | (with_reducible refine Below.setCell ?_ (by (try simp); (try omega)) _) | (with_reducible refine Below.trans ?_ (Below.mono (by assumption) (by (try simp); (try omega))))))⟩
theorem mark_pt (p : Pt) (fd : List Int) (hW : Hid (Web w P f G A n ca pn cs fr vC vD n Lk)) (hd : Hid (Row w 3 1 vD n (ivals fd))) (hfl : fd.length = n) (hn : n = cs.length) (hn2 : n ≤ 10000) (hp : isPt pn cs fr p = true) (hfr : fr ≤ 100) (h7 : ∀ a, pn a ≤ 7) (hfd : ∀ c, c < n → -1 ≤ fd.getD c 0 ∧ fd.getD c 0 ≤ 10000) :
    Calls Tryd.prog 105 #[.pointer (some ⟨P, 0, none⟩), .agg #[.int .i64 p.1, .int .i64 p.2]] w fun e w' => e = .returned (.int .i64 (markN0 fd p)) ∧ Below w.heap.size w w' := by
  obtain ⟨p1, p2⟩ := p
  unfold isPt at hp
  by_cases h : p1 = -1
  · subst h
    rw [if_pos rfl, decide_eq_true_eq] at hp
    obtain ⟨h1, h2⟩ := hp
    obtain ⟨s, rfl⟩ := Int.eq_ofNat_of_zero_le (show 0 ≤ p2 from h1)
    dsimp only at h2
    refine (mark_neg P w s (by omega)).mono ?_
    rintro e w1 ⟨rfl, hb⟩
    exact ⟨by rw [markN0, if_pos (by show (-1 : Int) < 0; decide)], hb⟩
  · rw [if_neg h, decide_eq_true_eq] at hp
    obtain ⟨h1, h2, h3, h4⟩ := hp
    obtain ⟨c, rfl⟩ := Int.eq_ofNat_of_zero_le (show 0 ≤ p1 from h1)
    obtain ⟨s, rfl⟩ := Int.eq_ofNat_of_zero_le (show 0 ≤ p2 from h3)
    dsimp only at h2 h4
    rw [Int.toNat_natCast] at h4
    have := h7 (cs.getD c 0)
    obtain ⟨f1, f2⟩ := hfd c (by omega)
    refine (mark_cell P f G A n ca pn cs fr vC vD Lk w c s n fd hW hd hfl (by omega) (by omega) f1 f2).mono ?_
    rintro e w1 ⟨rfl, hb⟩
    exact ⟨by rw [markN0, if_neg (by dsimp only; omega)]; simp, hb⟩
end
/-! ### Plain: the code, grown step by step -/
structure CodeS (row : Int → List Pt) (cs fd : List Int) (q : Pt) (l : List Int) (CK : Nat → List Int) (CJ : Nat → Nat → List Int) : Prop where
  k0 : CK 0 = [markN0 fd q]
  j0 : ∀ j, CJ j 0 = CK j ++ [cs.getD (l.getD j 0).toNat 0]
  js : ∀ j s, s < (row (l.getD j 0)).length → CJ j (s + 1) = CJ j s ++ [markN0 fd ((row (l.getD j 0)).getD s default)]
  k1 : ∀ j, j < l.length → CK (j + 1) = CJ j (row (l.getD j 0)).length
  kl : ∀ j, j ≤ l.length → (CK j).length ≤ 1 + 8 * j
  jl : ∀ j s, j ≤ l.length → (CJ j s).length ≤ 2 + 8 * j + s
  all : CK l.length = codeK cs row fd q l
theorem codeS (row : Int → List Pt) (cs fd : List Int) (q : Pt) (l : List Int) (h7 : ∀ c, (row c).length ≤ 7) : ∃ CK CJ, CodeS row cs fd q l CK CJ := by
  have kl : ∀ j, j ≤ l.length → (codeK cs row fd q (l.take j)).length ≤ 1 + 8 * j := fun j hj => by
    have := codeK_len (cs := cs) (row := row) (fd := fd) (p := q) (l := l.take j) (fun c _ => h7 c)
    rw [List.length_take] at this
    omega
  refine ⟨fun j => codeK cs row fd q (l.take j), fun j s => codeK cs row fd q (l.take j) ++ (cs.getD (l.getD j 0).toNat 0 :: ((row (l.getD j 0)).take s).map (markN0 fd)), ?_, ?_, ?_, ?_, kl, ?_, ?_⟩
  · simp [codeK]
  · intro j; simp
  · intro j s hs
    show codeK cs row fd q (l.take j) ++ (cs.getD (l.getD j 0).toNat 0 :: ((row (l.getD j 0)).take (s + 1)).map (markN0 fd)) = _
    generalize row (l.getD j 0) = R at hs ⊢
    have e : R.getD s default = R[s] := by simp [List.getD_eq_getElem?_getD, hs]
    rw [e, List.take_add_one, List.getElem?_eq_getElem hs, List.map_append, ← List.cons_append, ← List.append_assoc]
    rfl
  · intro j hj
    show codeK cs row fd q (l.take (j + 1)) = codeK cs row fd q (l.take j) ++ (cs.getD (l.getD j 0).toNat 0 :: ((row (l.getD j 0)).take (row (l.getD j 0)).length).map (markN0 fd))
    have e : l.getD j 0 = l[j] := by simp [List.getD_eq_getElem?_getD, hj]
    rw [List.take_length, List.take_add_one, List.getElem?_eq_getElem hj, e]
    unfold codeK
    rw [List.flatMap_append, ← List.cons_append]
    simp only [Option.toList_some, List.flatMap_cons, List.flatMap_nil, List.append_nil, cellC]
  · intro j s hj
    have := kl j hj
    simp only [List.length_append, List.length_cons, List.length_map, List.length_take]
    omega
  · simp
theorem fdOf_bd {n : Nat} {l : List Int} (hf : Fnd n l) (hn : n ≤ 10000) : ∀ c, c < n → -1 ≤ (fdOf n l).getD c 0 ∧ (fdOf n l).getD c 0 ≤ 10000 := fun c hc => by
  rw [fdOf_at hc]
  have := hf.len
  by_cases h : (c : Int) ∈ l
  · have := List.idxOf_lt_length_iff.2 h
    rw [if_pos h]; omega
  · rw [if_neg h]; omega
theorem isPt_lt {pn : Int → Nat} {cs : List Int} {fr : Nat} {p : Pt} (hp : isPt pn cs fr p = true) : p.1 < cs.length := by
  unfold isPt at hp
  split at hp
  · omega
  · rw [decide_eq_true_eq] at hp; omega
theorem isPt_cell {pn : Int → Nat} {cs : List Int} {c s : Nat} (fr : Nat) (hc : c < cs.length) (hs : s < pn (cs.getD c 0)) : isPt pn cs fr ((c : Int), (s : Int)) = true := by
  unfold isPt
  rw [if_neg (by dsimp only; omega), decide_eq_true_eq]
  simp only [Int.toNat_natCast]
  omega
theorem isPt_free {pn : Int → Nat} {cs : List Int} {fr : Nat} {p : Pt} (hp : isPt pn cs fr p = true) (h : p.1 < 0) : p.1 = -1 ∧ 0 ≤ p.2 ∧ p.2 < fr := by
  unfold isPt at hp
  split at hp
  · rw [decide_eq_true_eq] at hp; omega
  · rw [decide_eq_true_eq] at hp; omega
structure Fs2 (w : World) (P : Nat) (q : Pt) (X : World) : Prop where
  bx : X.heap[w.heap.size]? = some (.cells #[.pointer (some ⟨P, 0, none⟩)] 133 (0, 0))
  bs : X.heap[w.heap.size + 1]? = some (.cells #[.int .i64 q.1, .int .i64 q.2] 83 (0, 0))
  bl : Below w.heap.size w X
  sz : X.heap.size = w.heap.size + 2
theorem fs2_0 (w : World) (P : Nat) (q : Pt) : Fs2 w P q ((w.alloc (.cells #[.pointer (some ⟨P, 0, none⟩)] 133)).alloc (.cells #[.int .i64 q.1, .int .i64 q.2] 83)) := by
  refine ⟨(Below.heap_alloc _ _ _ (by simp)).trans (heap_alloc_new w _), ?_, ((Below.refl _ _).alloc (Nat.le_refl _) _).alloc (by simp) _, by simp⟩
  have := heap_alloc_new (w.alloc (.cells #[.pointer (some ⟨P, 0, none⟩)] 133)) (.cells #[.int .i64 q.1, .int .i64 q.2] 83)
  rwa [World.size_alloc] at this
theorem Fs2.cells {w X : World} {P : Nat} {q : Pt} (h : Fs2 w P q X) : X.cell? ⟨w.heap.size, 0, none⟩ = some (.pointer (some ⟨P, 0, none⟩)) ∧ X.cell? ⟨w.heap.size + 1, 0, none⟩ = some (.int .i64 q.1) ∧ X.cell? ⟨w.heap.size + 1, 1, none⟩ = some (.int .i64 q.2) ∧
    X.frozen? ⟨w.heap.size + 1, 0, none⟩ = false ∧ X.frozen? ⟨w.heap.size + 1, 1, none⟩ = false ∧ w.heap.size < X.heap.size ∧ w.heap.size + 1 < X.heap.size := by
  have h1 := h.bx
  have h2 := h.bs
  refine ⟨?_, ?_, ?_, ?_, ?_, heap_lt h1, heap_lt h2⟩ <;> simp [World.cell?, World.frozen?, h1, h2]
theorem Fs2.set {w X : World} {P : Nat} {q : Pt} (h : Fs2 w P q X) (q' : Pt) : Fs2 w P q' ((X.setCell ⟨w.heap.size + 1, 0, none⟩ (.int .i64 q'.1)).setCell ⟨w.heap.size + 1, 1, none⟩ (.int .i64 q'.2)) := by
  refine ⟨(set2_other X _ _ (by omega)).trans h.bx, ?_, ((h.bl.setCell (p := ⟨w.heap.size + 1, 0, none⟩) (by simp) _)).setCell (p := ⟨w.heap.size + 1, 1, none⟩) (by simp) _, by simpa using h.sz⟩
  simp [World.setCell, Array.getElem?_modify, h.bs]
theorem Fs2.drew {w X : World} {P : Nat} {q : Pt} (h : Fs2 w P q X) : Fs2 w P q X.drew := ⟨h.bx, h.bs, h.bl.drew, h.sz⟩
theorem Web.rowAt2 {X : World} {P f : Nat} {G : Nat → Nat} {A : Option Addr} {n ca : Nat} {pn : Int → Nat} {cs : List Int} {fr g cc : Nat} {vD : Value} {m : Nat} {Lk : Pt → Pt} (h : Web X P f G A n ca pn cs fr (.slice (some ⟨g, 0, none⟩) m cc) vD m Lk) {c : Nat} (hc : c < m) : g < X.heap.size ∧ X.cell? ⟨g, c, none⟩ = some (rowV G pn cs c) := by
  obtain ⟨g2, cc2, e, h1, h2⟩ := h.rowAt hc
  simp only [Value.slice.injEq, Option.some.injEq, Addr.mk.injEq, and_true, true_and] at e
  obtain ⟨rfl, rfl⟩ := e
  exact ⟨h1, h2⟩
theorem fresh_int1 {w w6 : World} (hb : Below w.heap.size w w6) (x : Int) : Fresh w (w6.alloc (.cells #[.int .i64 x] 3)) 3 1 1 (.slice (some ⟨w6.heap.size, 0, none⟩) 1 1) (ivals [x]) :=
  ⟨⟨rfl, .inr ⟨w6.heap.size, 1, _, rfl, heap_alloc_new w6 _, Nat.le_refl _, by decide, by simp, by simp [ivals]⟩⟩, fun b hb2 => by simp [ownB] at hb2; have := hb.size; omega, hb.alloc hb.size _⟩
section
variable (P f : Nat) (G : Nat → Nat) (A : Option Addr) (n ca : Nat) (pn : Int → Nat) (cs : List Int) (fr : Nat) (vC vD : Value) (Lk : Pt → Pt) (w : World)
set_option maxHeartbeats 4000000 in
theorem web_from (p : Pt) (hW : Hid (Web w P f G A n ca pn cs fr vC vD n Lk)) (hd : Hid (Row w 3 1 vD n (ivals (List.replicate n (-1))))) (HA : Hid (∀ Z, Kp (ownB vD) w Z → IntsRd Z A cs)) (hn : n = cs.length) (hn2 : n ≤ 10000) (hfr : fr ≤ 100) (h7 : ∀ a, pn a ≤ 7)
    (hp : Hid (isPt pn cs fr p = true)) (hL : Hid (∀ q, isPt pn cs fr q = true → isPt pn cs fr (Lk q) = true)) :
    Calls Tryd.prog 89 #[.pointer (some ⟨P, 0, none⟩), .agg #[.int .i64 p.1, .int .i64 p.2]] w fun e w' => ∃ v, e = .returned v ∧ Row w' 3 1 v (codeN pn cs Lk p).length (ivals (codeN pn cs Lk p)) ∧ Web w' P f G A n ca pn cs fr vC vD n Lk ∧
      Row w' 3 1 vD n (ivals (List.replicate n (-1))) ∧ Kp (ownB vD) w w' ∧ ∀ b ∈ ownB v, w.heap.size ≤ b := by
  obtain ⟨i0, hi0, hi1, hi2, hi3⟩ := info_parts int_info
  obtain ⟨q, hq⟩ : ∃ q, startP Lk p = q := ⟨_, rfl⟩
  have HQ := Lib.hid hq
  have HqP : Hid (isPt pn cs fr q = true) := by
    rw [← hq]
    show isPt pn cs fr (startP Lk p) = true
    unfold startP
    split
    · exact hL.out _ hp.out
    · exact hp.out
  clear hq
  have HC : Hid (codeN pn cs Lk p = codeK cs (rowP pn cs Lk) (fdOf n (walkL n (rowP pn cs Lk) q.1)) q (walkL n (rowP pn cs Lk) q.1)) := by
    unfold codeN; rw [HQ.out, hn]; exact Lib.hid rfl
  have HN := Lib.hid hn
  have hql : q.1 < n := by rw [hn]; exact isPt_lt HqP.out
  clear hn
  go_enter Tryd.func89, Tryd.ntmps89
  go_upto_if 19 with fail
  refine absW (fun X => Fs2 w P p X) (fs2_0 w P p) ?_
  intro X HX
  go_cut [] (fun wx => Fs2 w P q wx)
  case first =>
    obtain ⟨x0, x1, x2, x3, x4, x5, x6⟩ := HX.cells
    have HX := Lib.hid HX
    obtain ⟨p1, p2⟩ := p
    dsimp only at x1 x2 ⊢
    by_cases h : p1 < 0
    · obtain ⟨rfl, h2, h3⟩ := isPt_free hp.out h
      obtain ⟨s, rfl⟩ := Int.eq_ofNat_of_zero_le (show 0 ≤ p2 from h2)
      dsimp only at h3
      have hWX := hW.out.below HX.out.bl
      obtain ⟨c0, c1, c2, c3, hPl⟩ := hWX.cells
      obtain ⟨hfl, f0, f1, z0, z1⟩ := hWX.freeAt (s := s) (by omega)
      have HL2 : Hid (Lk (-1, (s : Int)) = q) := by rw [← HQ.out]; exact Lib.hid (by rw [startP, if_pos h])
      rw [HL2.out] at f0 f1
      clear c0 c1 c3 z0 z1 hWX h2
      obtain ⟨q1, q2⟩ := q
      dsimp only at f0 f1
      go_wp2_with fail
      (refine region_tail 8 (by kernel_rfl) (by kernel_rfl) ?_; simp only [List.take_succ_cons, List.take_zero, List.drop_succ_cons, List.drop_zero]; repeat still_step; try refine wpStill_nil ?_)
      go_wp2_with fail
      go_meet
      case rel => exact HX.out.drew.set (q1, q2)
    · have : q = (p1, p2) := by rw [← HQ.out]; show startP Lk (p1, p2) = _; rw [startP, if_neg h]
      subst this
      go_wp2_with fail
      go_meet
      case rel => exact HX.out
  case rest =>
    clear HX
    have HX := Lib.hid hcut
    clear hcut
    obtain ⟨x0, x1, x2, x3, x4, x5, x6⟩ := HX.out.cells
    have H1 : Hid (FS wc w.heap.size wc.heap.size P f G A n ca pn cs fr vC vD Lk (.slice none 0 0) [] (wc.alloc (.cells #[.slice none 0 0] 61))) := by
      have hb := (Below.refl wc.heap.size wc).alloc (Nat.le_refl _) (.cells #[.slice none 0 0] 61)
      refine ⟨(hW.out.below HX.out.bl).below hb, ?_, (hb.block _ x5).trans HX.out.bx, heap_alloc_new wc _, Row.nil _ _ _, Fnd.nil n, Kp.of_below hb, Nat.le_refl _, by simp [ownB], fun b hb2 => ?_⟩
      · rw [fdOf_nil]; exact (hd.out.keep fun b hb2 => HX.out.bl.block b (hd.out.lt b hb2)).keep fun b hb2 => hb.block b (Nat.lt_of_lt_of_le (hd.out.lt b hb2) HX.out.bl.size)
      · have := hd.out.lt b hb2; have := HX.out.sz; omega
    go_wp2_with (go_at_call 104
                 refine (find_is wc w.heap.size wc.heap.size P f G A n ca pn cs fr vC vD _ Lk [] _ _ (by omega) H1 hn2).mono ?_
                 rintro e w3 ⟨rfl, v3, h3⟩
                 have H3 := Lib.hid h3
                 clear h3)
    go_loopw [7] (fun i wr => ∃ k : Nat, ∃ v l, i = .int .i64 k ∧ k ≤ l.length ∧ l.length ≤ n ∧ Hid (FS wc w.heap.size wc.heap.size P f G A n ca pn cs fr vC vD Lk v l wr) ∧ Hid (walkF (rowP pn cs Lk) (n + 1 - k) k l = walkL n (rowP pn cs Lk) q.1)) (fun i _ => n - (intOf i).toNat)
    case atStart => exact ⟨0, _, _, rfl, by omega, H3.out.fl.len, H3, Lib.hid rfl⟩
    case round =>
      obtain ⟨k, v, l, rfl, hk, hln, HR, HWk⟩ := hrel
      clear H1 H3 x0 x1 x2 x3 x4
      obtain ⟨b0, b1, b2, b3, b4⟩ := HR.out.cells
      obtain ⟨V, cp, rfl, hcp⟩ := HR.out.rl.len
      by_cases hlt : k < l.length
      · obtain ⟨g0, cap0, cur0, hV, hg0, hle0, _⟩ := HR.out.rl.some_ (by omega)
        simp only [Value.slice.injEq, true_and] at hV
        obtain ⟨rfl, rfl⟩ := hV
        have hgl := heap_lt hg0
        obtain ⟨hc0, hc1⟩ := HR.out.fl.lt (l.getD k 0) (by rw [List.getD_eq_getElem?_getD, List.getElem?_eq_getElem hlt]; exact List.getElem_mem hlt)
        have e0 : wr.cell? ⟨g0, k, none⟩ = some (.int .i64 (l.getD k 0)) := by
          rw [HR.out.rl.cellAt k (by omega)]
          simp [ivals, hlt]
        have HS := Lib.hid (walkF_step (row := rowP pn cs Lk) (f := n + 1 - (k + 1)) hlt)
        generalize l.getD k 0 = x at e0 hc0 hc1 HS
        obtain ⟨c, rfl⟩ := Int.eq_ofNat_of_zero_le hc0
        have hcn : c < n := by omega
        obtain ⟨c0, c1, c2, c3, hPl⟩ := HR.out.web.cells
        obtain ⟨g2, cc, rfl, hgl2, r0⟩ := HR.out.web.rowAt hcn
        unfold rowV at r0
        obtain ⟨M, hM⟩ : ∃ M, pn (cs.getD c 0) = M := ⟨_, rfl⟩
        have hMr : (rowP pn cs Lk (c : Int)).length = M := by rw [rowP_len, Int.toNat_natCast, hM]
        have hM7 := h7 (cs.getD c 0)
        have HM := Lib.hid hM
        rw [hM] at r0 hM7
        have HMr := Lib.hid hMr
        clear c0 c2 c3 hM hMr hg0 hc0 hc1
        obtain ⟨gc, hgc⟩ : ∃ gc, G c = gc := ⟨_, rfl⟩
        have HGc := Lib.hid hgc
        rw [hgc] at r0
        clear hgc
        go_wp2_with fail
        (refine region_still (by kernel_rfl) (by kernel_rfl) ?_; repeat still_step; try refine wpStill_nil ?_)
        go_wp2_with fail
        go_loopw [9, 50] (fun _ i w4 => ∃ s : Nat, ∃ v4, i = .int .i64 s ∧ s ≤ M ∧ Hid (FS wc w.heap.size wc.heap.size P f G A n ca pn cs fr (.slice (some ⟨g2, 0, none⟩) n cc) vD Lk v4 (visitK (rowP pn cs Lk (c : Int)) l s) w4)) (fun _ i _ => M - (intOf i).toNat)
        case atStart => exact ⟨0, _, rfl, by omega, by rw [visitK_0]; exact Lib.hid (HR.out.grow (Below.refl _ _).drew)⟩
        case round =>
          obtain ⟨s, v4, rfl, hs, H4⟩ := hrel
          clear b0 b1 b2 b3 b4 e0 c1 r0
          by_cases hls : s < M
          · have hsp : s < pn (cs.getD c 0) := by rw [HM.out]; exact hls
            obtain ⟨hfl, f0, f1, z0, z1⟩ := H4.out.web.portAt hcn hsp
            have HLp := Lib.hid (hL.out _ (isPt_cell fr (by rw [← HN.out]; exact hcn) hsp))
            have HV : Hid (visitK (rowP pn cs Lk (c : Int)) l (s + 1) = addC (visitK (rowP pn cs Lk (c : Int)) l s) (Lk ((c : Int), (s : Int))).1) := Lib.hid (by rw [visitK_succ (by rw [HMr.out]; exact hls), rowP_at Lk hsp])
            rw [HGc.out] at f0 f1 hfl
            obtain ⟨⟨u0, u1⟩, hu⟩ : ∃ u, Lk ((c : Int), (s : Int)) = u := ⟨_, rfl⟩
            rw [hu] at f0 f1 HV HLp
            dsimp only at f0 f1
            have hun : u0 < n := by rw [HN.out]; exact isPt_lt HLp.out
            clear hu z0 z1 hsp
            have H5 : Hid (FS wc w.heap.size wc.heap.size P f G A n ca pn cs fr (.slice (some ⟨g2, 0, none⟩) n cc) vD Lk v4 (visitK (rowP pn cs Lk (c : Int)) l s) (wr.alloc (.cells #[.int .i64 u0, .int .i64 u1] 83))) := Lib.hid (H4.out.grow ((Below.refl _ _).alloc (Nat.le_refl _) _))
            go_wp2_with (go_at_call 104
                         refine (find_is wc w.heap.size wc.heap.size P f G A n ca pn cs fr _ vD _ Lk _ _ _ (by omega) H5 hn2).mono ?_
                         rintro e w6 ⟨rfl, v6, h6⟩
                         have H6 := Lib.hid h6
                         clear h6)
            go_roundw
            case rel => exact ⟨s + 1, v6, by go_num, by omega, by rw [HV.out]; exact H6⟩
            case measure => simp [intOf]; omega
          · obtain rfl : s = M := by omega
            have HV : Hid (visitK (rowP pn cs Lk (c : Int)) l s = visit (rowP pn cs Lk (c : Int)) l) := Lib.hid (by unfold visit; rw [HMr.out])
            have hvl := visitK_len (rowP pn cs Lk (c : Int)) l s
            go_wp2_with fail
            go_roundw
            case rel => exact ⟨k + 1, v4, _, by go_num, by omega, H4.out.fl.len, H4, Lib.hid (by rw [HV.out, ← HS.out, show n + 1 - (k + 1) + 1 = n + 1 - k by omega]; exact HWk.out)⟩
            case measure => simp [intOf]; omega
      · obtain rfl : k = l.length := by omega
        obtain ⟨wa, rfl⟩ : ∃ x : World, x = wr := ⟨_, rfl⟩
        have HL1 : Hid (walkL n (rowP pn cs Lk) q.1 = l) := by rw [← HWk.out, walkF_done (Nat.le_refl _)]; exact Lib.hid rfl
        rw [HL1.out] at HC
        clear HWk hlt hk
        obtain ⟨CK, CJ, hCS⟩ := codeS (rowP pn cs Lk) cs (fdOf n l) q l (fun c => by rw [rowP_len]; exact h7 _)
        have HCS := Lib.hid hCS
        rw [← hCS.all] at HC
        clear hCS
        have hbs : wa.heap[w.heap.size + 1]? = some (.cells #[.int .i64 q.1, .int .i64 q.2] 83 (0, 0)) := (HR.out.kp.block _ x6 fun hm => by have := hd.out.lt _ hm; omega).trans HX.out.bs
        have d0 : wa.cell? ⟨w.heap.size + 1, 0, none⟩ = some (.int .i64 q.1) := by simp [World.cell?, hbs]
        have d1 : wa.cell? ⟨w.heap.size + 1, 1, none⟩ = some (.int .i64 q.2) := by simp [World.cell?, hbs]
        clear hbs
        have hbd := Lib.hid (fdOf_bd HR.out.fl hn2)
        have HW1 := Lib.hid HR.out.web
        have HD1 := Lib.hid HR.out.rd
        go_upto_region 15 with (go_at_call 105
                                refine (mark_pt P f G A n ca pn cs fr vC vD Lk _ q (fdOf n l) HW1 HD1 (fdOf_len n l) HN.out hn2 HqP.out hfr h7 hbd.out).mono ?_
                                rintro e w6 ⟨rfl, hb6⟩)
        refine absW (fun Y => Fresh wa Y 3 1 1 (.slice (some ⟨w6.heap.size, 0, none⟩) 1 1) (ivals [markN0 (fdOf n l) q])) (fresh_int1 hb6 _) ?_
        intro Y hF
        have HF := Lib.hid hF
        clear hF d0 d1 HW1 HD1
        have H7 := HR.out.grow HF.out.2.2
        obtain ⟨b0, b1, b2, b3, b4⟩ := H7.cells
        clear H7
        rw [← HCS.out.k0] at HF
        have hk0 : (CK 0).length = 1 := by rw [HCS.out.k0]; rfl
        go_wp2_with fail
        go_loopw [10, 12, 65] (fun o _ i w7 => ∃ j : Nat, ∃ V5 c5, o = .slice V5 (CK j).length c5 ∧ i = .int .i64 j ∧ j ≤ l.length ∧ Hid (Fresh wa w7 3 1 (CK j).length (.slice V5 (CK j).length c5) (ivals (CK j)))) (fun _ _ i _ => l.length - (intOf i).toNat)
        case atStart => exact ⟨0, _, _, by rw [hk0], rfl, by omega, by rw [hk0]; exact HF⟩
        case round =>
          obtain ⟨j, V5, c5, rfl, rfl, hj, HF5⟩ := hrel
          obtain ⟨wb, rfl⟩ : ∃ x : World, x = wr := ⟨_, rfl⟩
          clear HF hk0 b0 b1 b2 b3 b4 hb6
          have H7 := Lib.hid (HR.out.grow HF5.out.2.2)
          obtain ⟨b0, b1, b2, b3, b4⟩ := H7.out.cells
          by_cases hltj : j < l.length
          · obtain ⟨g0, cap0, cur0, hV, hg0, hle0, _⟩ := H7.out.rl.some_ (by omega)
            simp only [Value.slice.injEq, true_and] at hV
            obtain ⟨rfl, rfl⟩ := hV
            have hgl := heap_lt hg0
            obtain ⟨hc0, hc1⟩ := HR.out.fl.lt (l.getD j 0) (by rw [List.getD_eq_getElem?_getD, List.getElem?_eq_getElem hltj]; exact List.getElem_mem hltj)
            have e0 : wb.cell? ⟨g0, j, none⟩ = some (.int .i64 (l.getD j 0)) := by
              rw [H7.out.rl.cellAt j (by omega)]
              simp [ivals, hltj]
            have HJ0 := Lib.hid (HCS.out.j0 j)
            have HJS := Lib.hid (HCS.out.js j)
            have HJ1 := Lib.hid (HCS.out.k1 j hltj)
            generalize l.getD j 0 = x at e0 hc0 hc1 HJ0 HJS HJ1
            obtain ⟨c, rfl⟩ := Int.eq_ofNat_of_zero_le hc0
            have hcn : c < n := by omega
            rw [Int.toNat_natCast] at HJ0
            obtain ⟨bA, off, rfl, hbA, eA⟩ := HA.out _ ((Kp.of_below HX.out.bl).trans H7.out.kp fun b hb => .inl hb) c (by rw [← HN.out]; exact hcn)
            obtain ⟨c0, c1, c2, c3, hPl⟩ := H7.out.web.cells
            obtain ⟨g2, cc, rfl, hgl2, r0⟩ := H7.out.web.rowAt hcn
            obtain ⟨M, hM⟩ : ∃ M, pn (cs.getD c 0) = M := ⟨_, rfl⟩
            have hMr : (rowP pn cs Lk (c : Int)).length = M := by rw [rowP_len, Int.toNat_natCast, hM]
            have hM7 := h7 (cs.getD c 0)
            have HM := Lib.hid hM
            rw [hM] at hM7
            have HMr := Lib.hid hMr
            obtain ⟨gc, hgc⟩ : ∃ gc, G c = gc := ⟨_, rfl⟩
            have HGc := Lib.hid hgc
            clear c1 c2 c3 hM hMr hg0 hc0 hc1 r0 hgc
            obtain ⟨ag, hag⟩ : ∃ ag, cs.getD c 0 = ag := ⟨_, rfl⟩
            have HAg := Lib.hid hag
            rw [hag] at eA HJ0
            clear hag
            have hkl := HCS.out.kl j (by omega)
            have hlj0 : (CJ j 0).length = (CK j).length + 1 := by rw [HJ0.out]; simp
            have HRow : Hid (Row (wb.alloc (.cells #[.int .i64 ag] 3)) 3 1 (.slice V5 (CK j).length c5) (CK j).length (ivals (CK j))) := HF5.out.1.alloc _
            have HSrc : Hid (Src (wb.alloc (.cells #[.int .i64 ag] 3)) (some ⟨wb.heap.size, 0, none⟩) 1 1 [.int .i64 ag]) :=
              Src.block (cs := #[.int .i64 ag]) (t := 3) (fr := (0, 0)) (heap_alloc_new wb _) rfl (by simp [Value.oneCell'])
            have HB63 : (CK j).length + 1 ≤ maxLen := by simp only [maxLen]; omega
            have HB47 : ((CK j).length + 1) * 8 ≤ 140737488355328 := by omega
            go_wp2_with (at_builtin; go_loud (refine inPlain rfl (wpo_row_append _ _ _ rfl i0 _ 8 Tryd.underlying137 hi0 hi1 hi2 hi3 rfl rfl HRow.out _ 1 1 rfl [.int .i64 ag] HSrc.out HB63 HB47 ?_)); intro sv5 w8 r5 k5 o5; obtain ⟨V6, c6, rfl, hc6⟩ := r5.len
                         have F6 : Hid (Fresh wa w8 3 1 (CJ j 0).length (.slice V6 (CJ j 0).length c6) (ivals (CJ j 0))) := by rw [hlj0, HJ0.out, ivals_snoc]; exact HF5.out.app k5 o5 r5
                         have H8 := Lib.hid (HR.out.grow F6.out.2.2)
                         obtain ⟨b0, b1, b2, b3, b4⟩ := H8.out.cells
                         obtain ⟨c0, c1, c2, c3, hPl⟩ := H8.out.web.cells
                         obtain ⟨hgl2, r0⟩ := H8.out.web.rowAt2 hcn
                         unfold rowV at r0
                         rw [HM.out, HGc.out] at r0
                         clear c0 c2 c3 k5 o5 r5)
            go_loopw [10, 14, 87] (fun o _ i w9 => ∃ s : Nat, ∃ V7 c7, o = .slice V7 (CJ j s).length c7 ∧ i = .int .i64 s ∧ s ≤ M ∧ Hid (Fresh wa w9 3 1 (CJ j s).length (.slice V7 (CJ j s).length c7) (ivals (CJ j s)))) (fun _ _ i _ => M - (intOf i).toNat)
            case atStart => exact ⟨0, _, _, by rw [hlj0], rfl, by omega, F6⟩
            case round =>
              obtain ⟨s, V7, c7, rfl, rfl, hs, HF7⟩ := hrel
              clear F6 b0 b1 b2 b3 b4 c1 r0 HRow HSrc HB63 HB47 hbA eA e0
              have H9 := Lib.hid (HR.out.grow HF7.out.2.2)
              obtain ⟨b0, b1, b2, b3, b4⟩ := H9.out.cells
              by_cases hls : s < M
              · have hsp : s < pn (cs.getD c 0) := by rw [HM.out]; exact hls
                obtain ⟨hfl, f0, f1, z0, z1⟩ := H9.out.web.portAt hcn hsp
                have HLp := Lib.hid (hL.out _ (isPt_cell fr (by rw [← HN.out]; exact hcn) hsp))
                have HV : Hid (CJ j (s + 1) = CJ j s ++ [markN0 (fdOf n l) (Lk ((c : Int), (s : Int)))]) := Lib.hid (by rw [HJS.out s (by rw [HMr.out]; exact hls), rowP_at Lk hsp])
                rw [HGc.out] at f0 f1 hfl
                obtain ⟨u, hu⟩ : ∃ u, Lk ((c : Int), (s : Int)) = u := ⟨_, rfl⟩
                rw [hu] at f0 f1 HV HLp
                clear hu z0 z1 hsp
                have hjl := HCS.out.jl j s (by omega)
                have hljs : (CJ j (s + 1)).length = (CJ j s).length + 1 := by rw [HV.out]; simp
                have H10 := H9.out.grow ((Below.refl _ _).alloc (Nat.le_refl _) (.cells #[.int .i64 u.1, .int .i64 u.2] 83))
                have HW1 := Lib.hid H10.web
                have HD1 := Lib.hid H10.rd
                clear H10
                have HB63 : (CJ j s).length + 1 ≤ maxLen := by simp only [maxLen]; omega
                have HB47 : ((CJ j s).length + 1) * 8 ≤ 140737488355328 := by omega
                have hbb : Below wr.heap.size wr (wr.alloc (.cells #[.int .i64 u.1, .int .i64 u.2] 83)) := (Below.refl _ _).alloc (Nat.le_refl _) _
                have HBB := Lib.hid hbb
                clear hbb
                generalize hmu : markN0 (fdOf n l) u = mu at HV
                have HMu := Lib.hid hmu
                clear hmu
                go_wp2_with (first
                  | (go_at_call 105
                     refine (mark_pt P f G _ n ca pn cs fr _ vD Lk _ u (fdOf n l) HW1 HD1 (fdOf_len n l) HN.out hn2 HLp.out hfr h7 hbd.out).mono ?_
                     rintro e w10 ⟨rfl, hb10⟩
                     rw [HMu.out]
                     have HF8 := Lib.hid ((HF7.out.later HBB.out).later hb10)
                     have HRow : Hid (Row (w10.alloc (.cells #[.int .i64 mu] 3)) 3 1 (.slice V7 (CJ j s).length c7) (CJ j s).length (ivals (CJ j s))) := HF8.out.1.alloc _
                     have HSrc : Hid (Src (w10.alloc (.cells #[.int .i64 mu] 3)) (some ⟨w10.heap.size, 0, none⟩) 1 1 [.int .i64 mu]) :=
                       Src.block (cs := #[.int .i64 mu]) (t := 3) (fr := (0, 0)) (heap_alloc_new w10 _) rfl (by simp [Value.oneCell'])
                     clear hb10)
                  | (at_builtin; go_loud (refine inPlain rfl (wpo_row_append _ _ _ rfl i0 _ 8 Tryd.underlying137 hi0 hi1 hi2 hi3 rfl rfl HRow.out _ 1 1 rfl [.int .i64 mu] HSrc.out HB63 HB47 ?_)); intro sv5 w11 r5 k5 o5; obtain ⟨V8, c8, rfl, hc8⟩ := r5.len
                     have F9 : Hid (Fresh wa w11 3 1 (CJ j (s + 1)).length (.slice V8 (CJ j (s + 1)).length c8) (ivals (CJ j (s + 1)))) := by rw [hljs, HV.out, ivals_snoc]; exact HF8.out.app k5 o5 r5))
                go_roundw
                case rel => exact ⟨s + 1, V8, c8, by rw [hljs], by go_num, by omega, F9⟩
                case measure => simp [intOf]; omega
              · obtain rfl : s = M := by omega
                go_wp2_with fail
                go_roundw
                case rel => exact ⟨j + 1, V7, c7, by rw [HJ1.out, HMr.out], by go_num, by omega, by rw [HJ1.out, HMr.out]; exact HF7⟩
                case measure => simp [intOf]; omega
          · obtain rfl : j = l.length := by omega
            have HF := HF5
            clear HF5 hltj hj
            go_wp2_with fail
            go_loopw [16, 101] (fun _ i wz => ∃ j : Nat, i = .int .i64 j ∧ j ≤ l.length ∧ Hid (Row wz 3 1 vD n (ivals (fdK n l j))) ∧ Hid (Kp (ownB vD) wb wz)) (fun _ i _ => l.length - (intOf i).toNat)
            case atStart => exact ⟨0, rfl, by omega, by rw [fdK_0]; exact Lib.hid H7.out.rd, Kp.refl _ _⟩
            case round =>
              obtain ⟨j, rfl, hj, HRz, HKz⟩ := hrel
              have hWz : Web wr P f G A n ca pn cs fr vC vD n Lk := H7.out.web.kp HKz.out fun b hb => by
                obtain ⟨cur, hc⟩ := H7.out.rd.type b hb
                exact ⟨cur, _, hc, by decide⟩
              have HWz := Lib.hid hWz
              clear hWz
              have nbw : w.heap.size ∉ ownB vD := fun hm => by have := hd.out.lt _ hm; omega
              have y0 := (HKz.out.cell (p := ⟨w.heap.size, 0, none⟩) b3 nbw).trans b0
              have yl : w.heap.size < wr.heap.size := Nat.lt_of_lt_of_le b3 HKz.out.size
              by_cases hltz : j < l.length
              · obtain ⟨g0, cap0, cur0, hV, hg0, hle0, _⟩ := H7.out.rl.some_ (by omega)
                simp only [Value.slice.injEq, true_and] at hV
                obtain ⟨rfl, rfl⟩ := hV
                have hgl := heap_lt hg0
                have hg0v : g0 ∉ ownB vD := fun hm => by have := H7.out.ld _ hm; have := H7.out.lr g0 (by simp [ownB]); omega
                obtain ⟨hc0, hc1⟩ := HR.out.fl.lt (l.getD j 0) (by rw [List.getD_eq_getElem?_getD, List.getElem?_eq_getElem hltz]; exact List.getElem_mem hltz)
                have e0 : wr.cell? ⟨g0, j, none⟩ = some (.int .i64 (l.getD j 0)) := by
                  rw [HKz.out.cell (p := ⟨g0, j, none⟩) hgl hg0v, H7.out.rl.cellAt j (by omega)]
                  simp [ivals, hltz]
                have hgl' := Nat.lt_of_lt_of_le hgl HKz.out.size
                obtain ⟨c, hc⟩ := Int.eq_ofNat_of_zero_le hc0
                have HS := Lib.hid (fdK_succ (n := n) hltz hc)
                rw [hc] at e0
                have hcn : c < n := by omega
                obtain ⟨c0, c1, c2, c3, hPl⟩ := HWz.out.cells
                obtain ⟨g3, cap3, cur3, rfl, hg3, hle3, _⟩ := HRz.out.some_ (by omega)
                have hg3l := heap_lt hg3
                have hcell : ∃ u, wr.cell? ⟨g3, c, none⟩ = some u := ⟨_, by rw [HRz.out.cellAt c (by omega), List.getElem?_eq_getElem (by rw [HRz.out.1]; omega)]⟩
                obtain ⟨u3, hu3⟩ := hcell
                have hfz := HRz.out.frozenAt c
                have HR9 : Hid (Row (wr.setCell ⟨g3, c, none⟩ (.int .i64 (-1))) 3 1 (.slice (some ⟨g3, 0, none⟩) n cap3) n (ivals (fdK n l (j + 1)))) := by
                  have := HRz.out.set c (.int .i64 (-1))
                  rw [HS.out]
                  have e : (ivals (fdK n l j)).set c (.int .i64 (-1)) = ivals ((fdK n l j).set c (-1)) := by simp [ivals, List.map_set]
                  rw [← e]; exact this
                clear hc hg0 hc0 hc1 c0 c1 c2 hg3
                go_wp2_with fail
                go_roundw
                case rel => exact ⟨j + 1, by go_num, by omega, HR9, Lib.hid (HKz.out.setCell (p := ⟨g3, c, none⟩) (.inl (by simp [ownB])) _)⟩
                case measure => simp [intOf]; omega
              · obtain rfl : j = l.length := by omega
                have hre : ivals (fdK n l l.length) = ivals (List.replicate n (-1)) := by rw [fdK_all, fdOf_nil]
                rw [hre] at HRz
                clear hre y0 yl
                go_wp2
                exact bodyPost_ret (v := .slice V5 (CK l.length).length c5) (by simp only [results, Tryd.results89]; go_simp) rfl ⟨_, rfl, by
                    rw [HC.out]
                    refine (HF.out.1.kp HKz.out fun b hb hm => ?_)
                    have h1 := HF.out.2.1 b hb; have h2 := HR.out.ld b hm; have h3 := HR.out.kp.size; omega, HWz.out, HRz.out, ((Kp.of_below HX.out.bl).trans H7.out.kp fun b hb => .inl hb).trans HKz.out fun b hb => .inl hb, fun b hb => by
                    have h1 := HF.out.2.1 b hb; have h3 := HR.out.kp.size; have h4 := HX.out.sz; omega⟩
end
end Go.Proofs.YtkonfogebepccaaDoor
