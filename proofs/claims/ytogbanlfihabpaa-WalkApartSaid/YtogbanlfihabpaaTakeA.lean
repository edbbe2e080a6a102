/-
  walk.Parts's 'take': its beginning, over the cells.
-/
import Derived.Test.YtogbanlfihabpaaPartsSt2
import Derived.Test.YtogbanlfihabpaaSortRow
import Derived.Test.YtogbanlfihabpaaRegionHSIn
namespace Go.Proofs.Ytogbanlfihabpaa
open Go.RowKit
attribute [local go_sem] cell_set
attribute [local go_sem] Oper.semAt_some
set_option maxRecDepth 100000
set_option linter.unusedVariables false

noncomputable def tkT (n : Nat) : Code := ((Try.f22.body).bind (tailQ n)).getD .skip
def FrTK (ds : List Deferred) (U : Nat → Value) : Act := { tmps := (U 0 :: U 1 :: U 2 :: U 3 :: U 4 :: U 5 :: U 6 :: U 7 :: U 8 :: U 9 :: U 10 :: U 11 :: U 12 :: U 13 :: U 14 :: U 15 :: U 16 :: U 17 :: U 18 :: U 19 :: U 20 :: U 21 :: U 22 :: U 23 :: U 24 :: U 25 :: U 26 :: U 27 :: U 28 :: U 29 :: U 30 :: U 31 :: U 32 :: U 33 :: U 34 :: U 35 :: U 36 :: U 37 :: U 38 :: U 39 :: U 40 :: U 41 :: U 42 :: U 43 :: U 44 :: U 45 :: U 46 :: U 47 :: U 48 :: U 49 :: U 50 :: U 51 :: U 52 :: U 53 :: U 54 :: U 55 :: U 56 :: U 57 :: U 58 :: U 59 :: U 60 :: U 61 :: U 62 :: U 63 :: U 64 :: U 65 :: U 66 :: U 67 :: U 68 :: U 69 :: U 70 :: U 71 :: U 72 :: U 73 :: U 74 :: U 75 :: U 76 :: U 77 :: U 78 :: U 79 :: U 80 :: U 81 :: U 82 :: U 83 :: U 84 :: U 85 :: U 86 :: U 87 :: U 88 :: U 89 :: U 90 :: U 91 :: U 92 :: U 93 :: U 94 :: U 95 :: U 96 :: U 97 :: U 98 :: U 99 :: U 100 :: U 101 :: U 102 :: U 103 :: []).toArray, defers := ds }
theorem FrN.openTK {ds : List Deferred} {L : List (Nat × Value)} {a : Act} (h : FrN 104 ds L a) : ∃ U, a = FrTK ds U ∧ Us U L := h.open_
theorem part_info : (Try.prog.info? 38).map (fun i => (i.zero, i.size, i.bytes)) = some (some (.agg #[.slice none 0 0, .slice none 0 0]), 2, 48) := by kernel_rfl
def actK (a : Act) (x : Int) : Act := { tmps := (a.tmps.setIfInBounds 19 (.int .i64 x)).setIfInBounds 7 (.int .i64 x), defers := [] }
theorem cell_alloc {Y : World} {q : Addr} {v : Value} (o : Obj) (h : Y.cell? q = some v) : ((Y.alloc o).drew).cell? q = some v := by
  have hl : q.block < Y.heap.size := by
    unfold World.cell? at h
    split at h
    · rename_i h1; exact heap_lt h1
    · cases h
  exact (((Below.refl Y.heap.size Y).alloc (Nat.le_refl _) o).cell (p := q) hl).trans h
section
variable (Q : Exit → Act → World → Prop) (w1 : World) (bl bw bo bf P m go gf : Nat) (A : Option Addr) (cap : Nat) (L : List (ByteArray × Int)) (VA VB : Option Addr) (ca cb : Nat) (cells : List Int) (f : Nat) (W : List (Pt × Pt)) (n : Nat)
set_option maxHeartbeats 4000000 in
theorem tk_0 (a : Act) (X : World) (p : Pt) (wl : List Int) (ofs frs : List Int) (v : Value) (qs : List PV) (hs : Hid (SigOk L)) (hag : Hid (∀ i, i < cells.length → 0 ≤ cells.getD i 0 ∧ cells.getD i 0 < L.length)) (hok : Hid (NetOk (pnL L) cells f W)) (hc5 : cells.length ≤ 5000)
    (hn : n = cells.length) (hp : Hid (isPt (pnL L) cells f p = true)) (hwl : wlk (pnL L) cells (lkM W) p = wl) (hq : qs.length ≤ 10000) (hw : Hid (WebS w1 P m A cap L VA VB ca cb cells f W))
    (HS : Hid (PtS w1 X bl bw bo bf P go gf n f ofs frs v qs))
    (hnext : Hid (∀ a' Y Dl gl cl bn b5 a1, FrN 104 [{ target := .collected Dl, args := #[] }] [(1, .pointer (some ⟨bl, 0, none⟩)), (2, .pointer (some ⟨bw, 0, none⟩)), (3, .pointer (some ⟨bo, 0, none⟩)), (4, .pointer (some ⟨bf, 0, none⟩)), (5, .pointer (some ⟨b5, 0, none⟩)), (6, .pointer (some ⟨bn, 0, none⟩))] a' →
      PtS w1 Y bl bw bo bf P go gf n f (setAll ofs ((qs.length + 1 : Nat) : Int) wl) frs (.slice (some ⟨gl, 0, none⟩) (qs.length + 1) cl) (qs ++ [⟨a1, .slice none 0 0, wl, []⟩]) →
      Y.heap[bn]? = some (.cells #[.int .i64 ((qs.length + 1 : Nat) : Int)] 3 (0, 0)) → PtBx Y b5 p → Y.heap[Dl]? = some (.deferred (some [])) → (∀ b ∈ [b5, bn, Dl], w1.heap.size ≤ b ∧ b ∉ [bl, bw, bo, bf, go, gf, gl] ∧ ∀ u ∈ pvCells (qs ++ [(⟨a1, .slice none 0 0, wl, []⟩ : PV)]), b ∉ ownB u) → X.heap.size ≤ Dl → (tkT 7).wp Try.prog Q a' Y))
    (ha : FrN 104 [] [(0, .agg #[.int .i64 p.1, .int .i64 p.2]), (1, .pointer (some ⟨bl, 0, none⟩)), (2, .pointer (some ⟨bw, 0, none⟩)), (3, .pointer (some ⟨bo, 0, none⟩)), (4, .pointer (some ⟨bf, 0, none⟩))] a) : (tkT 0).wp Try.prog Q a X := by
  obtain ⟨U, rfl, e0, e1, e2, e3, e4, -⟩ := ha.openTK
  unfold FrTK
  simp only [e0, e1, e2, e3, e4]
  clear e0 e1 e2 e3 e4 ha
  show (Code.seq _ _).wp _ _ _ _
  obtain ⟨j0, hj0, hj1, hj2, hj3⟩ := info_parts part_info
  obtain ⟨i0, hi0, hi1, hi2, hi3⟩ := info_parts int_info
  have HWL := Lib.hid hwl
  have HN := Lib.hid hn
  clear hwl hn
  obtain ⟨k, hk⟩ : ∃ k, qs.length = k := ⟨_, rfl⟩
  have HK := Lib.hid hk
  go_upto_region 1 with fail
  refine absW (fun Z => Below X.heap.size X Z ∧ PtBx Z X.heap.size p) ⟨by (repeat (first | exact Below.refl _ _ | (with_reducible refine Below.drew ?_) | (with_reducible refine Below.alloc ?_ (by (try simp); (try omega)) _) | (with_reducible refine Below.setCell ?_ (by (try simp); (try omega)) _) | (with_reducible refine Below.trans ?_ (Below.mono (by assumption) (by (try simp); (try omega)))))), heap_alloc_new X _⟩ ?_
  rintro Z ⟨hbZ, hpZ⟩
  have HZ := Lib.hid (And.intro hbZ hpZ)
  have HSZ := Lib.hid (HS.out.below hbZ)
  obtain ⟨Vv, cv, rfl, hcv⟩ := HSZ.out.lr.len
  obtain ⟨c0, z0, hbl⟩ := HSZ.out.blc
  rw [hk] at c0 hq
  have HRw : Hid (Row (Z.alloc (.cells #[.slice none 0 0, .slice none 0 0] 38)) 38 2 (.slice Vv k cv) k (pvCells qs)) := by
    have := HSZ.out.lr.alloc (.cells #[.slice none 0 0, .slice none 0 0] 38)
    rw [hk] at this; exact this
  have HSr : Hid (Src (Z.alloc (.cells #[.slice none 0 0, .slice none 0 0] 38)) (some ⟨Z.heap.size, 0, none⟩) 1 2 [.slice none 0 0, .slice none 0 0]) := Src.block (cs := #[.slice none 0 0, .slice none 0 0]) (t := 38) (fr := (0, 0)) (heap_alloc_new Z _) rfl (by simp [Value.oneCell'])
  have hg63 : k + 1 ≤ maxLen := by simp only [maxLen]; omega
  have hg47 : (k + 1) * 48 ≤ 140737488355328 := by omega
  clear hbZ hpZ hk hcv
  iterate 30 (first | at_builtin | go_values | go_skip | go_guarded | go_step | go_upon)
  refine inPlain rfl (wpo_row_append _ _ _ rfl j0 _ 48 Try.underlying32 hj0 hj1 hj2 hj3 rfl rfl HRw.out _ 1 1 rfl [.slice none 0 0, .slice none 0 0] HSr.out hg63 hg47 ?_)
  intro sv5 w5 r5 k5 o5; obtain ⟨V5, cp5, rfl, hc5'⟩ := r5.len
  change Kp (ownB (.slice Vv k cv)) _ w5 at k5
  change ownB _ = ownB (.slice Vv k cv) ∨ ownB _ = [(Z.alloc _).heap.size] at o5
  obtain ⟨gl, cl, e5⟩ : ∃ gl cl, Value.slice V5 (k + 1) cp5 = .slice (some ⟨gl, 0, none⟩) (k + 1) cl := by
    rcases r5.2 with ⟨e, _⟩ | ⟨g, cap', cur, e, _⟩
    · injection e with _ e2; omega
    · exact ⟨g, cap', e⟩
  injection e5 with e51 _ e52
  subst e51 e52
  have o5x : ownB (.slice (some ⟨gl, 0, none⟩) (k + 1) cp5) = ownB (.slice Vv k cv) ∨ ∀ b ∈ ownB (.slice (some ⟨gl, 0, none⟩) (k + 1) cp5), Z.heap.size ≤ b := o5.imp id fun e b hb => by rw [e] at hb; simp at hb; omega
  have M5 := PtS.more HSZ.out (by rw [HK.out]; exact r5) (by rw [HK.out]; exact k5) (by rw [HK.out]; exact o5x)
  obtain ⟨⟨z2, z3⟩, HM⟩ := M5
  have HM5 := Lib.hid HM
  have HPX : Hid (PtBx (w5.setCell ⟨bl, 0, none⟩ (.slice (some ⟨gl, 0, none⟩) (k + 1) cp5)) X.heap.size p ∧ X.heap.size < w5.heap.size) := by
    have hz := HZ.out.1.size
    have hzl := heap_lt HZ.out.2
    have hne : X.heap.size ≠ bl := fun e => by have := heap_lt HS.out.xl; omega
    refine ⟨(Below.heap_setCell _ _ _ _ hne).trans ((k5.block X.heap.size (by simp; omega) (fun hm => ?_)).trans ((Below.heap_alloc _ _ _ hzl).trans HZ.out.2)), by have := k5.size; simp at this; omega⟩
    have hm' : X.heap.size ∈ ownB (.slice Vv qs.length cv) := by rw [HK.out]; exact hm
    obtain ⟨cu, h9⟩ := row_block HSZ.out.lr _ hm'
    exact ty_no2 HZ.out.2 h9 (by decide)
  clear k5 o5 o5x r5 hc5' HM
  go_upto_region 2 with fail
  refine absW (fun Y => PtS w1 Y bl bw bo bf P go gf n f ofs frs (.slice (some ⟨gl, 0, none⟩) (k + 1) cp5) (qs ++ [⟨.slice none 0 0, .slice none 0 0, [], []⟩]) ∧ PtBx Y X.heap.size p ∧ Y.heap.size = w5.heap.size) ⟨HM5.out, HPX.out.1, by simp⟩ ?_
  clear z2 z3 HM5
  rintro Y ⟨hY, hp5, hzY⟩
  have HY := Lib.hid (And.intro hY (And.intro hp5 (And.intro hzY HPX.out.2)))
  obtain ⟨y1, y2, y3⟩ := hY.blc
  obtain ⟨y4, y5⟩ := hY.bwc
  obtain ⟨y6, y7, y8⟩ := hp5.cells
  clear hY hp5 hzY HPX
  go_upto_region 3 with fail
  go_wp2_with (go_at_call 23; refine (web_cells P p.1 p.2 _).mono ?_; rintro e X3 ⟨rfl, hpb3, hbw3, hb3⟩
               have HX3 := Lib.hid (And.intro hpb3 (And.intro hbw3 hb3))
               clear hpb3 hbw3 hb3)
  obtain ⟨bn, hbn⟩ : ∃ bn, bn = Y.heap.size := ⟨_, rfl⟩
  have hsz : (Y.alloc (.cells #[.int .i64 ((k : Int) + 1)] 3)).heap.size = bn + 1 := by simp [hbn]
  have hcb : (.int .i64 ((k : Int) + 1) : Value) = .int .i64 ((qs.length + 1 : Nat) : Int) := by rw [HK.out]; push_cast; rfl
  have hY1 : Below Y.heap.size Y X3 := ((Below.refl _ Y).alloc (Nat.le_refl _) _).trans (HX3.out.2.2.mono (by simp))
  have hP3 := HY.out.1.below hY1
  have hbn3 : X3.heap[bn]? = some (.cells #[.int .i64 ((qs.length + 1 : Nat) : Int)] 3 (0, 0)) := by
    rw [← hcb]
    exact (HX3.out.2.2.block bn (by simp; omega)).trans (by rw [hbn]; exact heap_alloc_new Y _)
  have hp53 : PtBx X3 X.heap.size p := (hY1.block _ (heap_lt HY.out.2.1)).trans HY.out.2.1
  have hpb3 := HX3.out.1
  have hbw3 := HX3.out.2.1
  have hz3 := HX3.out.2.2.size
  simp only [World.size_alloc] at hbw3 hpb3 hz3
  rw [← hbn] at hY1 hbw3 hpb3 hz3 ⊢
  have hzw := HY.out.1.bel.size
  have hl3 := heap_lt hpb3
  have hl2 := heap_lt hbw3
  rw [← hbn] at hzw
  have hql := (Lib.hid hw).out.out.lt
  have hw3 := hw.out.below (hP3.bel)
  have hlo := HY.out.1.lo.1
  have hblY : bl < bn ∧ bw < bn ∧ bo < bn ∧ bf < bn ∧ go < bn ∧ gf < bn ∧ gl < bn := by
    have h := HY.out.1
    rw [hbn]
    exact ⟨heap_lt h.xl, heap_lt h.xw, heap_lt h.xo, heap_lt h.xf, h.og.lt _ (by simp [ownB]), h.fg.lt _ (by simp [ownB]), h.lr.lt _ (by simp [ownB])⟩
  have hlo' : w1.heap.size ≤ bl ∧ w1.heap.size ≤ bw ∧ w1.heap.size ≤ bo ∧ w1.heap.size ≤ bf ∧ w1.heap.size ≤ go ∧ w1.heap.size ≤ gf ∧ w1.heap.size ≤ gl := ⟨hlo _ (by simp), hlo _ (by simp), hlo _ (by simp), hlo _ (by simp), hlo _ (by simp), hlo _ (by simp), hlo _ (by simp [ownB])⟩
  have HD : Hid (TkI bl bo bn go gl n cp5 qs ofs [] [bl, bo, bn, go, gl] X3 ∧ ∀ b ∈ [bl, bo, bn, go, gl], b ∉ (bn + 1) :: webQ P m A VA L cells ∧ b ∉ [bn + 1 + 1]) := by
    refine ⟨⟨.slice none 0 0, rfl, by rw [HK.out]; exact hP3.xl, hP3.xo, hbn3, ?_, hP3.og, Row.nil _ _ _, by simp [ownB], by simp [ownB], by omega⟩, fun b hb => ⟨fun hm => ?_, ?_⟩⟩
    · have := hP3.lr
      rw [List.length_append] at this
      rw [HK.out]
      simpa [HK.out] using this
    · simp only [List.mem_cons, List.not_mem_nil, or_false] at hb
      rcases List.mem_cons.1 hm with h | h
      · omega
      · have := hql _ h; omega
    · simp only [List.mem_cons, List.not_mem_nil, or_false] at hb ⊢
      omega
  have hne3 : bn + 1 + 1 ∉ (bn + 1) :: webQ P m A VA L cells := fun hm => by
    rcases List.mem_cons.1 hm with h | h
    · omega
    · have := hql _ h; omega
  have HSeq := Lib.hid (cells_seq 4 (bn + 1) (bn + 1 + 1) P m A cap L VA VB ca cb cells f W p X3 hs.out hag.out hok.out hc5 hp.out hne3 hpb3 hbw3 hw3)
  rw [HWL.out] at HSeq
  have HQl : Hid (∀ b ∈ ((bn + 1) :: webQ P m A VA L cells) ++ [bn + 1 + 1], b < X3.heap.size) := fun b hb => by
    simp only [List.mem_append, List.mem_cons, List.not_mem_nil, or_false] at hb
    rcases hb with (h | h) | h
    · omega
    · have := hql _ h; omega
    · omega
  have HFnd : Hid (Fnd n wl) := by
    have hf : Fnd cells.length wl := by
      rw [← HWL.out]
      exact Fnd.walkF (fun c q hq => by obtain ⟨y, rfl⟩ := rowP_mem hq; exact lkM_lt hok.out y) _ _ ((Fnd.nil _).add (isPt_lt (startP_is hok.out hp.out)))
    show Fnd n wl
    rw [HN.out]; exact hf
  have HN5 : Hid (n ≤ 5000) := by show n ≤ 5000; rw [HN.out]; exact hc5
  have HH := Lib.hid (And.intro hP3 (And.intro hp53 (And.intro hz3 (And.intro hblY (And.intro hlo' (And.intro hbn hcb))))))
  clear hbn hl3 hl2 hql hw3 hlo hblY hlo' hne3 hpb3 hbw3 hz3 hp53 hP3 hbn3 hY1 hsz hcb hzw y1 y2 y3 y4 y5 y6 y7 y8
  rename_i K9 hK9 t9
  refine rfo rfl (enters_of Try.func31 (by kernel_rfl) rfl) HSeq.out HQl.out (fun _ => rfl) (TkI bl bo bn go gl n cp5 qs ofs) (TkI.stab ..) [bl, bo, bn, go, gl] HD.out.1 HD.out.2 actK ?assign ?body ?done
  case assign =>
    intro l x Y K hK
    unfold encI
    gi_wp2
    simpa [actK] using hK
  case body =>
    rintro l pre x D W2 hpre ⟨a, hD, h1, h2, h3, h4, h5, h6, h7⟩ hzY
    have hxw : x ∈ wl := hpre.subset (by simp)
    obtain ⟨hx0, hxn⟩ := HFnd.out.lt x hxw
    obtain ⟨c, rfl⟩ := Int.eq_ofNat_of_zero_le hx0
    have hcn : c < n := by omega
    obtain ⟨kp, hkp⟩ : ∃ kp, pre.length = kp := ⟨_, rfl⟩
    have hkl : kp + 1 ≤ 5000 := by
      have e1 := hpre.length_le
      have e2 := HFnd.out.len
      have e3 := HN5.out
      rw [List.length_append, hkp] at e1
      simp at e1
      omega
    have HI := Lib.hid (And.intro hD (And.intro h1 (And.intro h2 (And.intro h3 (And.intro h4 (And.intro h5 (And.intro h6 (And.intro h7 hkp))))))))
    have n1 : W2.cell? ⟨bl, 0, none⟩ = some (.slice (some ⟨gl, 0, none⟩) (k + 1) cp5) := by rw [HK.out] at h1; simp [World.cell?, h1]
    have n2 : W2.cell? ⟨bo, 0, none⟩ = some (.slice (some ⟨go, 0, none⟩) n n) := by simp [World.cell?, h2]
    have n3 : W2.cell? ⟨bn, 0, none⟩ = some (.int .i64 ((k : Int) + 1)) := by rw [HK.out] at h3; push_cast at h3; simp [World.cell?, h3]
    have hgc : (ivals (setAll ofs ((qs.length + 1 : Nat) : Int) pre)).length = n := by simpa using h5.1
    have n4 := (h5.cellAt c (by omega)).trans (List.getElem?_eq_getElem (by omega))
    have n5 := h5.frozenAt c
    have n6 : W2.cell? ⟨gl, k * 2, none⟩ = some a := by
      have h := (h4.cellAt (qs.length * 2) (by omega)).trans (pvCells_at (qs := qs ++ [⟨a, .slice none 0 0, pre, []⟩]) (i := qs.length) (by simp)).1
      rw [← HK.out, h]
      simp
    have n7 : gl ≠ go ∧ bl ≠ go ∧ bn ≠ go := by
      refine ⟨fun e => ?_, fun e => ?_, h7.2.2⟩
      · obtain ⟨c1, e1⟩ := row_block h4 gl (by simp [ownB])
        obtain ⟨c2, e2⟩ := row_block h5 go (by simp [ownB])
        rw [e] at e1; exact ty_no2 e1 e2 (by decide)
      · obtain ⟨c2, e2⟩ := row_block h5 go (by simp [ownB])
        rw [e] at h1; exact ty_no2 h1 e2 (by decide)
    obtain ⟨n7a, n7b, n7c⟩ := n7
    have n4' : W2.cell? ⟨go, c, none⟩ = some ((ivals (setAll ofs ((qs.length + 1 : Nat) : Int) pre))[c]'(by omega)) := n4
    generalize (ivals (setAll ofs ((qs.length + 1 : Nat) : Int) pre))[c]'(by omega) = cv4 at n4'
    have hcn' : (c : Int) < (n : Int) := by omega
    have HRw : Hid (Row (((W2.setCell ⟨go, c, none⟩ (.int .i64 ((k : Int) + 1))).drew).alloc (.cells #[.int .i64 (c : Int)] 3)) 3 1 a kp (ivals pre)) := by
      show Row _ _ _ _ _ _
      rw [← hkp]
      exact (h6.keep (fun b hb => Below.heap_setCell _ _ _ b (fun (e : b = go) => h7.1 (e ▸ hb)))).drew.alloc _
    have HSr : Hid (Src (((W2.setCell ⟨go, c, none⟩ (.int .i64 ((k : Int) + 1))).drew).alloc (.cells #[.int .i64 (c : Int)] 3)) (some ⟨W2.heap.size, 0, none⟩) 1 1 [.int .i64 (c : Int)]) := Src.block (cs := #[.int .i64 (c : Int)]) (t := 3) (fr := (0, 0)) (by simpa using heap_alloc_new ((W2.setCell ⟨go, c, none⟩ (.int .i64 ((k : Int) + 1))).drew) (.cells #[.int .i64 (c : Int)] 3)) rfl (by simp [Value.oneCell'])
    obtain ⟨av, ac, rfl⟩ : ∃ av ac, a = .slice av kp ac := by
      rw [← hkp]; obtain ⟨A9, c9, e9, _⟩ := h6.len; exact ⟨A9, c9, e9⟩
    have hg63 : kp + 1 ≤ maxLen := by simp only [maxLen]; omega
    have hg47 : (kp + 1) * 8 ≤ 140737488355328 := by omega
    have n1a : (W2.setCell ⟨go, c, none⟩ (.int .i64 ((k : Int) + 1))).cell? ⟨bl, 0, none⟩ = some (.slice (some ⟨gl, 0, none⟩) (k + 1) cp5) := by rw [cell_set, if_neg (fun h => n7b h.1.symm)]; exact n1
    have n3a : (W2.setCell ⟨go, c, none⟩ (.int .i64 ((k : Int) + 1))).cell? ⟨bn, 0, none⟩ = some (.int .i64 ((k : Int) + 1)) := by rw [cell_set, if_neg (fun h => n7c h.1.symm)]; exact n3
    have n6a : (W2.setCell ⟨go, c, none⟩ (.int .i64 ((k : Int) + 1))).cell? ⟨gl, k * 2, none⟩ = some (.slice av kp ac) := by rw [cell_set, if_neg (fun h => n7a h.1.symm)]; exact n6
    clear hD h1 h2 h3 h4 h5 h6 h7 hgc n4 hkp hpre hxw hx0 hxn
    simp only [actK]
    gi_wp2
    refine region_hs_in 10 12 (fun W' => W'.cell? ⟨bl, 0, none⟩ = some (.slice (some ⟨gl, 0, none⟩) (k + 1) cp5) ∧ W'.cell? ⟨bn, 0, none⟩ = some (.int .i64 ((k : Int) + 1)) ∧ W'.cell? ⟨gl, k * 2, none⟩ = some (.slice av kp ac)) (by kernel_rfl) (by kernel_rfl) (by kernel_rfl) (fun ⟨_, _, h⟩ => h.elim) (fun _ _ _ _ _ h => h.elim) ?hS ?_; (case hS => exact ⟨n1a, n3a, n6a⟩)
    simp only [List.take_succ_cons, List.take_zero, List.drop_succ_cons, List.drop_zero]
    have hk1 : IntKind.i64.wrap (k : Int) = (k : Int) := by rw [IntWalk.i64_in _ (by omega)]
    have hk2 : (k : Int) < (k : Int) + 1 := by omega
    iterate 10 (refine wpHead_step (v := ?_) (by rfl) ?_ ?_; rotate_left; (· intro W9 ⟨s1, s2, s3⟩; go_simp; try with_reducible rfl); (try simp only [Act.put, List.setIfInBounds_toArray, List.set_cons_zero, List.set_cons_succ]))
    refine wpHead_nil ?_
    refine wpMid_step (by rfl) (fun K9 hK9 => ?_)
    unfold Oper.wp
    go_simp
    refine hK9 _ _ (⟨cell_alloc _ n1a, cell_alloc _ n3a, cell_alloc _ n6a⟩) ?_
    (try simp only [Act.put, List.setIfInBounds_toArray, List.set_cons_zero, List.set_cons_succ])
    clear hK9 K9
    refine wpMid_step (by rfl) (fun K9 hK9 => ?_)
    refine wpo_row_append _ _ _ (by rfl) i0 _ 8 Try.underlying23 hi0 hi1 hi2 hi3 (by rfl) (by rfl) HRw.out _ 1 1 (by rfl) [.int .i64 (c : Int)] HSr.out hg63 hg47 ?_
    intro sv5 w7 r5 k5 o5
    obtain ⟨V5, cp7, rfl, hc5'⟩ := r5.len
    change Kp (ownB (.slice av kp ac)) _ w7 at k5
    change ownB (.slice V5 (kp + 1) cp7) = ownB (.slice av kp ac) ∨ ownB (.slice V5 (kp + 1) cp7) = [_] at o5
    obtain ⟨hD, h1, h2, h3, h4, h5, h6, h7, hkp⟩ := HI.out
    have hN : ((k : Int) + 1) = ((qs.length + 1 : Nat) : Int) := by rw [HK.out]; push_cast; rfl
    have k5' : Kp (ownB (.slice av kp ac)) ((W2.setCell ⟨go, c, none⟩ (.int .i64 ((qs.length + 1 : Nat) : Int))).drew.alloc (.cells #[.int .i64 (c : Int)] 3)) w7 := by rw [← hN]; exact k5
    have A5 := TkI.app hcn hD h1 h2 h3 h4 h5 h6 h7 (a' := .slice V5 (kp + 1) cp7) (by rw [hkp]; exact r5) k5' (o5.imp id fun e b hb => by rw [e] at hb; simp at hb; omega)
    rw [HK.out] at A5
    obtain ⟨⟨z1, z2, z3, z4⟩, A6⟩ := A5
    push_cast at z2
    have HA6 := Lib.hid A6
    refine hK9 _ _ ⟨z1, z2, z3⟩ ?_
    refine wpMid_nil ?_
    clear hK9 K9 A6 k5 k5' o5 r5 n1 n2 n3 n4' n5 n6 n1a n3a n6a hD h1 h2 h3 h4 h5 h6 h7 hkp hN
    go_wp2_with fail
    exact HA6.out
  case done =>
    rintro Dl D W4 hDl hI hG hkp hK
    obtain ⟨hP3, hp53, hz3, hblY, hlo', hbn, hcb⟩ := HH.out
    have hub : ∀ u ∈ pvCells qs, ∀ b ∈ ownB u, b < bn := fun u hu b hb => by
      obtain ⟨xs, hr⟩ := HY.out.1.urow (u := u) (by rw [pvCells_snoc]; simp [hu])
      have := hr.lt b hb; omega
    have hP3' : PtS w1 X3 bl bw bo bf P go gf n f ofs frs (.slice (some ⟨gl, 0, none⟩) (qs.length + 1) cp5) (qs ++ [⟨.slice none 0 0, .slice none 0 0, [], []⟩]) := by rw [HK.out]; exact hP3
    obtain ⟨a1, hP4, hb4, hn4⟩ := PtS.walked (b3 := bn + 1 + 1) (bn := bn) (D := D) hP3' hI hkp hG ⟨by omega, by omega⟩ (fun b hb => by
      simp only [List.mem_cons, List.not_mem_nil, or_false] at hb
      refine ⟨by simp only [List.mem_cons, List.not_mem_nil, or_false]; omega, fun u hu hm => ?_⟩
      have := hub u hu b hm
      omega)
    have hp54 : PtBx W4 X.heap.size p := by
      refine (hkp.block _ (heap_lt hp53) (fun hm => ?_)).trans hp53
      simp only [List.cons_append, List.nil_append, List.mem_cons, List.not_mem_nil, or_false] at hm
      have hbn3 := hI
      obtain ⟨cgo, ego⟩ := row_block hP3.og go (by simp [ownB])
      obtain ⟨cgl, egl⟩ := row_block hP3.lr gl (by simp [ownB])
      have hYl := heap_lt HY.out.2.1
      rcases hm with h | h | h | h | h | h
      · omega
      · rw [h] at hp53; exact ty_no2 hp53 hP3.xl (by decide)
      · rw [h] at hp53; exact ty_no2 hp53 hP3.xo (by decide)
      · omega
      · rw [h] at hp53; exact ty_no2 hp53 ego (by decide)
      · rw [h] at hp53; exact ty_no2 hp53 egl (by decide)
    refine hK9 _ _ (hnext.out _ W4 Dl gl cp5 bn X.heap.size a1 ⟨rfl, rfl, rfl, rfl, rfl, rfl, rfl, rfl, trivial⟩ hP4 hb4 hp54 hK ?w3 (by have := HY.out.2.2; omega))
    intro b hb
    obtain ⟨cgo, ego⟩ := row_block hP4.og go (by simp [ownB])
    obtain ⟨cgf, egf⟩ := row_block hP4.fg gf (by simp [ownB])
    obtain ⟨cgl, egl⟩ := row_block hP4.lr gl (by simp [ownB])
    have hYl := heap_lt HY.out.2.1
    have hXl := HZ.out.1.size
    have hXb := HS.out.bel.size
    have hni : ∀ (b : Nat) (o : Obj), W4.heap[b]? = some o → (∀ ca, o ≠ .cells ca 3 (0, 0)) → ∀ u ∈ pvCells (qs ++ [(⟨a1, .slice none 0 0, wl, []⟩ : PV)]), b ∉ ownB u := fun b o hb hn u hu hm => by
      obtain ⟨xs, hr⟩ := hP4.urow hu
      obtain ⟨cu, e9⟩ := row_block hr b hm
      rw [hb] at e9
      injection e9 with e9
      exact hn _ e9
    simp only [List.mem_cons, List.not_mem_nil, or_false] at hb
    rcases hb with h | h | h
    · rw [h]
      refine ⟨by omega, fun hm => ?_, hni _ _ hp54 (by intro ca e; injection e with _ e; exact absurd e (by decide))⟩
      simp only [List.mem_cons, List.not_mem_nil, or_false] at hm
      have hp := hp54
      rcases hm with h | h | h | h | h | h | h <;> rw [h] at hp
      · exact ty_no2 hp hP4.xl (by decide)
      · exact ty_no2 hp hP4.xw (by decide)
      · exact ty_no2 hp hP4.xo (by decide)
      · exact ty_no2 hp hP4.xf (by decide)
      · exact ty_no2 hp ego (by decide)
      · exact ty_no2 hp egf (by decide)
      · exact ty_no2 hp egl (by decide)
    · rw [h]
      refine ⟨by omega, by simp only [List.mem_cons, List.not_mem_nil, or_false]; omega, fun u hu hm => ?_⟩
      rw [pvCells_snoc] at hu
      rcases List.mem_append.1 hu with hu | hu
      · have := hub u hu _ hm; omega
      · simp at hu
        rcases hu with rfl | rfl
        · have := hn4 _ hm; omega
        · simp [ownB] at hm
    · rw [h]
      refine ⟨by omega, by simp only [List.mem_cons, List.not_mem_nil, or_false]; omega, hni _ _ hK (by intro ca e; cases e)⟩
end
end Go.Proofs.Ytogbanlfihabpaa
