/-
  Contracts of walk.From.
-/
import Derived.Test.YtogbanlfihabpaaWalkIter2
import Derived.Test.YtogbanlfihabpaaWalkLook
import Derived.Test.YtogbanlfihabpaaNetPorts
namespace Go.Proofs.Ytogbanlfihabpaa
open Go.RowKit
attribute [local go_sem] cell_set
attribute [local go_sem] Oper.semAt_some
set_option maxRecDepth 100000
set_option linter.unusedVariables false

/-- No panic, no jump. -/
def npQ (Q : Exit → Act → World → Prop) : Exit → Act → World → Prop
  | .normal, a, w => Q .normal a w
  | .ret, a, w => Q .ret a w
  | _, _, _ => False
theorem npQ_le {Q : Exit → Act → World → Prop} : ∀ e a w, npQ Q e a w → Q e a w := fun e a w h => by
  cases e <;> first | exact h | exact h.elim
/-- The list that grows, in a box. -/
def FrI (b : Nat) (pre : List Int) (D : List Nat) (Y : World) : Prop := ∃ V c, D = b :: ownB (.slice V pre.length c) ∧ Y.heap[b]? = some (.cells #[.slice V pre.length c] 23 (0, 0)) ∧ Row Y 3 1 (.slice V pre.length c) pre.length (ivals pre)
theorem FrI.stab (b : Nat) : Stab (FrI b) := by
  refine ⟨?_, ?_⟩
  · rintro s D X Y ⟨V, c, rfl, h1, h2⟩ hk hz
    exact ⟨V, c, rfl, (hk b (by simp)).trans h1, h2.keep (fun x hx => hk x (by simp [hx]))⟩
  · rintro s D X ⟨V, c, rfl, h1, h2⟩ x hx
    rcases List.mem_cons.1 hx with rfl | hx
    · exact heap_lt h1
    · exact h2.lt x hx
theorem FrI.start {b : Nat} {Y : World} (h : Y.heap[b]? = some (.cells #[.slice none 0 0] 23 (0, 0))) : FrI b [] [b] Y := ⟨none, 0, by simp [ownB], h, Row.nil _ _ _⟩
theorem FrI.app {b n : Nat} {pre : List Int} {D : List Nat} {Y w5 : World} {V V5 : Option Addr} {c c5 : Nat} {x : Int} {o : Obj} (hD : D = b :: ownB (.slice V n c)) (h1 : Y.heap[b]? = some (.cells #[.slice V n c] 23 (0, 0))) (h2 : Row Y 3 1 (.slice V n c) n (ivals pre)) (hn : n = pre.length)
    (r : Row w5 3 1 (.slice V5 (n + 1) c5) (n + 1) (ivals pre ++ [.int .i64 x])) (k : Kp (ownB (.slice V n c)) (Y.alloc o) w5) (ho : ownB (.slice V5 (n + 1) c5) = ownB (.slice V n c) ∨ ownB (.slice V5 (n + 1) c5) = [(Y.alloc o).heap.size]) :
    w5.cell? ⟨b, 0, none⟩ = some (.slice V n c) ∧ w5.frozen? ⟨b, 0, none⟩ = false ∧ ∃ D', FrI b (pre ++ [x]) D' (w5.setCell ⟨b, 0, none⟩ (.slice V5 (n + 1) c5)) ∧ Gr D Y D' ∧ Kp D Y (w5.setCell ⟨b, 0, none⟩ (.slice V5 (n + 1) c5)) := by
  subst hn hD
  have hbl := heap_lt h1
  have hbV : b ∉ ownB (.slice V pre.length c) := fun hb => by
    obtain ⟨cu, h3⟩ := row_block h2 b hb
    exact ty_no2 h1 h3 (by decide)
  have hb5 : w5.heap[b]? = some (.cells #[.slice V pre.length c] 23 (0, 0)) := (k.block b (by simp; omega) hbV).trans ((Below.heap_alloc _ _ _ hbl).trans h1)
  have hbV5 : b ∉ ownB (.slice V5 (pre.length + 1) c5) := fun hb => by
    obtain ⟨cu, h3⟩ := row_block r b hb
    exact ty_no2 hb5 h3 (by decide)
  refine ⟨by simp [World.cell?, hb5], by simp [World.frozen?, hb5], b :: ownB (.slice V5 (pre.length + 1) c5), ⟨V5, c5, by simp, ?_, ?_⟩, fun y hy => ?_, ?_⟩
  · simp [World.setCell, Array.getElem?_modify, hb5]
  · have h3 := r.keep (w' := w5.setCell ⟨b, 0, none⟩ (.slice V5 (pre.length + 1) c5)) (fun y hy => Below.heap_setCell _ _ _ y (fun (e : y = b) => hbV5 (e ▸ hy)))
    rw [List.length_append, ivals_snoc]
    exact h3
  · rcases List.mem_cons.1 hy with rfl | hy
    · exact .inl (by simp)
    · rcases ho with e | e <;> rw [e] at hy
      · exact .inl (by simp [hy])
      · simp at hy; right; omega
  · exact ((((Kp.refl (b :: ownB (.slice V pre.length c)) Y).alloc o).trans k (fun y hy => .inl (by simp [hy])))).setCell (.inl (by simp)) _
def actF (a : Act) (x : Int) : Act := { tmps := (a.tmps.setIfInBounds 37 (.int .i64 x)).setIfInBounds 13 (.int .i64 x), defers := [] }
section
variable (A : Option Addr) (n cap : Nat) (L : List (ByteArray × Int)) (VA VB : Option Addr) (ca cb : Nat) (cells : List Int) (free : Int) (W : List (Pt × Pt)) (p1 p2 : Int) (w : World)
set_option maxHeartbeats 1000000 in
theorem wfrom_port (f : Nat) (hn : n = L.length) (hcap : L.length ≤ cap) (HL : Hid (AgRd w A L)) (hl : L.length ≤ maxLen) (HC : Hid (IntsRd w VA cells)) (HW : Hid (WrRd w VB W)) (hc : cells.length ≤ 10000) (hw : W.length ≤ 40000)
    (hk : (netChk (pnL L) L.length (chk L) cells (f : Int) W).1 = 0) (hp : isPt (pnL L) cells f (p1, p2) = false) :
    Calls Try.prog 12 #[.slice A n cap, netV VA ca cells (f : Int) VB cb W, .agg #[.int .i64 p1, .int .i64 p2]] w fun e w' => e = .returned (.tuple #[.slice none 0 0, .int .i64 30]) ∧ Below w.heap.size w w' := by
  obtain ⟨q1, hq1⟩ : ∃ q : Int, q = 0 := ⟨_, rfl⟩
  obtain ⟨q2, hq2⟩ : ∃ q : Int, q = 0 := ⟨_, rfl⟩
  obtain ⟨isP, hisP⟩ : ∃ b : Bool, b = false := ⟨_, rfl⟩
  have HQ : Hid (((lnk W (p1, p2)).map encPt).getD (encPt (0, 0)) = .agg #[.int .i64 q1, .int .i64 q2] ∧ ((lnk W (p1, p2)).map encPt).isSome = isP) := by
    have h0 : lnk W (p1, p2) = none := by
      refine lnk_none (fun hm => ?_)
      have := (netChk_ok hk).2.2.2.2.2.is _ hm
      rw [Int.toNat_natCast, hp] at this; cases this
    rw [h0, hq1, hq2, hisP]; exact ⟨rfl, rfl⟩
  have HIS := Lib.hid hisP
  clear hq1 hq2 hisP hp
  obtain ⟨hz, hc4, hf0, hf64, hag, hok⟩ := netChk_ok hk
  rw [Int.toNat_natCast] at hok
  have hsg := Lib.hid (chk_sig hz)
  have HAG := Lib.hid hag
  have HOK := Lib.hid hok
  have HK := Lib.hid hk
  have hc5 : cells.length ≤ 5000 := by omega
  clear hk hz hag hok hf0 hf64 hc4
  subst hn
  refine (callsIn_wide (n := 5)).1 (callsIn_of_wp_marks Try.func12 rfl trivial (Code.wpIn_mono npQ_le (wpIn_wide.2 ?_)) rfl)
  simp only [Try.ntmps12, List.size_toArray, List.length_cons, List.length_nil, Nat.reduceAdd, Nat.reduceSub, Array.replicate_succ, Array.replicate_zero, List.push_toArray, List.append_toArray, List.nil_append, List.cons_append]
  go_upto_region 1 with fail
  refine absW (fun X => Below w.heap.size w X ∧ NBox X w.heap.size VA cells.length ca (f : Int) VB W.length cb ∧ PtBx X (w.heap.size + 1) (p1, p2)) ⟨by (repeat (first | exact Below.refl _ _ | (with_reducible refine Below.drew ?_) | (with_reducible refine Below.alloc ?_ (by (try simp); (try omega)) _) | (with_reducible refine Below.setCell ?_ (by (try simp); (try omega)) _) | (with_reducible refine Below.trans ?_ (Below.mono (by assumption) (by (try simp); (try omega)))))), ⟨by simp <;> omega, by go_simp, by go_simp, by go_simp⟩, ?_⟩ ?_
  · have := heap_alloc_new (w.alloc (.cells #[.slice VA cells.length ca, .int .i64 (f : Int), .slice VB W.length cb] 26)) (.cells #[.int .i64 p1, .int .i64 p2] 41)
    rw [World.size_alloc] at this
    exact this
  rintro X ⟨hbx, hnb, hpb⟩
  have HX := Lib.hid (And.intro hbx (And.intro hnb hpb))
  have c0 := HX.out.2.1.c0
  have c1 := HX.out.2.1.c1
  have c2 := HX.out.2.1.c2
  have clt := HX.out.2.1.lt
  clear hbx hnb hpb
  go_wp2_with fail
  refine (wlook_ok A _ cap L VA VB ca cb cells W _ f rfl hcap (Lib.hid (HL.out.below HX.out.1)) hl (Lib.hid (HC.out.below HX.out.1)) (Lib.hid (HW.out.below HX.out.1)) hc hw HK.out).mono ?_
  rintro e w1 ⟨P, m, rfl, hws, hP, hm, hb1⟩
  have hpb1 := (hb1.block _ (heap_lt HX.out.2.2)).trans HX.out.2.2
  have HX1 := Lib.hid (And.intro (HX.out.1.trans (hb1.mono HX.out.1.size)) (And.intro hpb1 (And.intro hws (And.intro hP hm))))
  clear c0 c1 c2 clt hws hb1 hpb1 hP hm
  simp only []
  go_upto_region 4 with fail
  obtain ⟨t0, t1, t4, tl⟩ := HX1.out.2.2.1.fld
  have hpx := HX1.out.2.1
  have x0 : w1.cell? ⟨w.heap.size + 1, 0, none⟩ = some (.int .i64 p1) := by simp [World.cell?, hpx]
  have x1 : w1.cell? ⟨w.heap.size + 1, 1, none⟩ = some (.int .i64 p2) := by simp [World.cell?, hpx]
  have xl := heap_lt hpx
  clear hpx t0 t1
  have HSB : Hid (∀ Y, Below w1.heap.size w1 Y → Y.cell? ⟨P, 4, none⟩ = some (.map (some m)) ∧ Y.cell? ⟨w.heap.size + 1, 0, none⟩ = some (.int .i64 p1) ∧ Y.cell? ⟨w.heap.size + 1, 1, none⟩ = some (.int .i64 p2) ∧ (Instr.lookup 64 (.map (some m)) (.agg #[.int .i64 p1, .int .i64 p2]) true).run Try.prog Y = .ok (.tuple #[.agg #[.int .i64 q1, .int .i64 q2], .bool isP]) Y) := fun Y hY => by
    refine ⟨(hY.cell (p := ⟨P, 4, none⟩) tl).trans t4, (hY.cell (p := ⟨w.heap.size + 1, 0, none⟩) xl).trans x0, (hY.cell (p := ⟨w.heap.size + 1, 1, none⟩) xl).trans x1, ?_⟩
    have := (HX1.out.2.2.1.below hY).mp.lookup kport Try.underlying64 zport (p1, p2) true
    simp only [if_true] at this
    rw [HQ.out.1, HQ.out.2] at this
    exact this
  refine region_hs 9 12 (fun Y => Y.cell? ⟨P, 4, none⟩ = some (.map (some m)) ∧ Y.cell? ⟨w.heap.size + 1, 0, none⟩ = some (.int .i64 p1) ∧ Y.cell? ⟨w.heap.size + 1, 1, none⟩ = some (.int .i64 p2) ∧ (Instr.lookup 64 (.map (some m)) (.agg #[.int .i64 p1, .int .i64 p2]) true).run Try.prog Y = .ok (.tuple #[.agg #[.int .i64 q1, .int .i64 q2], .bool isP]) Y) (by kernel_rfl) (by kernel_rfl) (fun _ _ d _ _ h => by cases d <;> exact h) (HSB.out _ ((Below.refl _ _).drew)) ?_
  simp only [List.take_succ_cons, List.take_zero, List.drop_succ_cons, List.drop_zero]
  iterate 9 (refine wpHead_step (v := ?_) (by rfl) ?_ ?_; rotate_left; (· intro W9 hSw; (try dsimp only at hSw); go_simp; try with_reducible rfl); (try simp only [Act.put, List.setIfInBounds_toArray, List.set_cons_zero, List.set_cons_succ]))
  refine wpHead_nil ?_
  refine wpMid_step (by rfl) (fun K9 hK9 => ?_)
  unfold Oper.wp
  go_simp
  refine hK9 _ _ ((HSB.out _ (by (repeat (first | exact Below.refl _ _ | (with_reducible refine Below.drew ?_) | (with_reducible refine Below.alloc ?_ (by (try simp); (try omega)) _) | (with_reducible refine Below.setCell ?_ (by (try simp); (try omega)) _) | (with_reducible refine Below.trans ?_ (Below.mono (by assumption) (by (try simp); (try omega))))))))) ?_
  (try simp only [Act.put, List.setIfInBounds_toArray, List.set_cons_zero, List.set_cons_succ])
  refine wpMid_step (by rfl) (fun K9 hK9 => ?_)
  unfold Oper.wp
  go_simp
  refine hK9 _ _ ((HSB.out _ (by (repeat (first | exact Below.refl _ _ | (with_reducible refine Below.drew ?_) | (with_reducible refine Below.alloc ?_ (by (try simp); (try omega)) _) | (with_reducible refine Below.setCell ?_ (by (try simp); (try omega)) _) | (with_reducible refine Below.trans ?_ (Below.mono (by assumption) (by (try simp); (try omega))))))))) ?_
  (try simp only [Act.put, List.setIfInBounds_toArray, List.set_cons_zero, List.set_cons_succ])
  refine wpMid_step (by rfl) (fun K9 hK9 => ?_)
  unfold Oper.wp
  go_simp
  refine hK9 _ _ ((HSB.out _ (by (repeat (first | exact Below.refl _ _ | (with_reducible refine Below.drew ?_) | (with_reducible refine Below.alloc ?_ (by (try simp); (try omega)) _) | (with_reducible refine Below.setCell ?_ (by (try simp); (try omega)) _) | (with_reducible refine Below.trans ?_ (Below.mono (by assumption) (by (try simp); (try omega))))))))) ?_
  (try simp only [Act.put, List.setIfInBounds_toArray, List.set_cons_zero, List.set_cons_succ])
  refine wpMid_nil ?_
  clear t4 x0 x1
  rw [HIS.out]
  go_wp2_with fail
  exact ⟨.tuple #[.slice none 0 0, .int .i64 30], by simp [results, Try.f12, go_sem], rfl, HX1.out.1.trans (by (repeat (first | exact Below.refl _ _ | (with_reducible refine Below.drew ?_) | (with_reducible refine Below.alloc ?_ (by (try simp); (try omega)) _) | (with_reducible refine Below.setCell ?_ (by (try simp); (try omega)) _) | (with_reducible refine Below.trans ?_ (Below.mono (by assumption) (by (try simp); (try omega)))))))⟩
set_option maxHeartbeats 1000000 in
theorem wfrom_ok (f : Nat) (hn : n = L.length) (hcap : L.length ≤ cap) (HL : Hid (AgRd w A L)) (hl : L.length ≤ maxLen) (HC : Hid (IntsRd w VA cells)) (HW : Hid (WrRd w VB W)) (hc : cells.length ≤ 10000) (hw : W.length ≤ 40000)
    (hk : (netChk (pnL L) L.length (chk L) cells (f : Int) W).1 = 0) (hp : isPt (pnL L) cells f (p1, p2) = true) :
    Calls Try.prog 12 #[.slice A n cap, netV VA ca cells (f : Int) VB cb W, .agg #[.int .i64 p1, .int .i64 p2]] w fun e w' => ∃ V c, e = .returned (.tuple #[.slice V (wlk (pnL L) cells (lkM W) (p1, p2)).length c, .int .i64 0]) ∧ Fresh w w' 3 1 (wlk (pnL L) cells (lkM W) (p1, p2)).length (.slice V (wlk (pnL L) cells (lkM W) (p1, p2)).length c) (ivals (wlk (pnL L) cells (lkM W) (p1, p2))) := by
  obtain ⟨q, hq0⟩ : ∃ q, lkM W (p1, p2) = q := ⟨_, rfl⟩
  obtain ⟨q1, q2⟩ := q
  obtain ⟨isP, hisP⟩ : ∃ b : Bool, b = true := ⟨_, rfl⟩
  have HQ : Hid (((lnk W (p1, p2)).map encPt).getD (encPt (0, 0)) = .agg #[.int .i64 q1, .int .i64 q2] ∧ ((lnk W (p1, p2)).map encPt).isSome = isP) := by
    have hok := (netChk_ok hk).2.2.2.2.2
    rw [Int.toNat_natCast] at hok
    obtain ⟨r, hr, _⟩ := hok.lnk hp
    have : r = (q1, q2) := by rw [← hq0]; simp [lkM, hr]
    rw [hr, this, hisP]; exact ⟨rfl, rfl⟩
  have HIS := Lib.hid hisP
  have HPt : Hid (isPt (pnL L) cells f (p1, p2) = true) := hp
  obtain ⟨wl, hwl⟩ : ∃ wl, wlk (pnL L) cells (lkM W) (p1, p2) = wl := ⟨_, rfl⟩
  rw [hwl]
  have HWL := Lib.hid hwl
  obtain ⟨i0, hi0, hi1, hi2, hi3⟩ := info_parts int_info
  clear hq0 hisP hp hwl
  obtain ⟨hz, hc4, hf0, hf64, hag, hok⟩ := netChk_ok hk
  rw [Int.toNat_natCast] at hok
  have hsg := Lib.hid (chk_sig hz)
  have HAG := Lib.hid hag
  have HOK := Lib.hid hok
  have HK := Lib.hid hk
  have hc5 : cells.length ≤ 5000 := by omega
  clear hk hz hag hok hf0 hf64 hc4
  subst hn
  refine (callsIn_wide (n := 5)).1 (callsIn_of_wp_marks Try.func12 rfl trivial (Code.wpIn_mono npQ_le (wpIn_wide.2 ?_)) rfl)
  simp only [Try.ntmps12, List.size_toArray, List.length_cons, List.length_nil, Nat.reduceAdd, Nat.reduceSub, Array.replicate_succ, Array.replicate_zero, List.push_toArray, List.append_toArray, List.nil_append, List.cons_append]
  go_upto_region 1 with fail
  refine absW (fun X => Below w.heap.size w X ∧ NBox X w.heap.size VA cells.length ca (f : Int) VB W.length cb ∧ PtBx X (w.heap.size + 1) (p1, p2)) ⟨by (repeat (first | exact Below.refl _ _ | (with_reducible refine Below.drew ?_) | (with_reducible refine Below.alloc ?_ (by (try simp); (try omega)) _) | (with_reducible refine Below.setCell ?_ (by (try simp); (try omega)) _) | (with_reducible refine Below.trans ?_ (Below.mono (by assumption) (by (try simp); (try omega)))))), ⟨by simp <;> omega, by go_simp, by go_simp, by go_simp⟩, ?_⟩ ?_
  · have := heap_alloc_new (w.alloc (.cells #[.slice VA cells.length ca, .int .i64 (f : Int), .slice VB W.length cb] 26)) (.cells #[.int .i64 p1, .int .i64 p2] 41)
    rw [World.size_alloc] at this
    exact this
  rintro X ⟨hbx, hnb, hpb⟩
  have HX := Lib.hid (And.intro hbx (And.intro hnb hpb))
  have c0 := HX.out.2.1.c0
  have c1 := HX.out.2.1.c1
  have c2 := HX.out.2.1.c2
  have clt := HX.out.2.1.lt
  clear hbx hnb hpb
  go_wp2_with fail
  refine (wlook_ok A _ cap L VA VB ca cb cells W _ f rfl hcap (Lib.hid (HL.out.below HX.out.1)) hl (Lib.hid (HC.out.below HX.out.1)) (Lib.hid (HW.out.below HX.out.1)) hc hw HK.out).mono ?_
  rintro e w1 ⟨P, m, rfl, hws, hP, hm, hb1⟩
  have hpb1 := (hb1.block _ (heap_lt HX.out.2.2)).trans HX.out.2.2
  have HX1 := Lib.hid (And.intro (HX.out.1.trans (hb1.mono HX.out.1.size)) (And.intro hpb1 (And.intro hws (And.intro hP hm))))
  clear c0 c1 c2 clt hws hb1 hpb1 hP hm
  simp only []
  go_upto_region 4 with fail
  obtain ⟨t0, t1, t4, tl⟩ := HX1.out.2.2.1.fld
  have hpx := HX1.out.2.1
  have x0 : w1.cell? ⟨w.heap.size + 1, 0, none⟩ = some (.int .i64 p1) := by simp [World.cell?, hpx]
  have x1 : w1.cell? ⟨w.heap.size + 1, 1, none⟩ = some (.int .i64 p2) := by simp [World.cell?, hpx]
  have xl := heap_lt hpx
  clear hpx t0 t1
  have HSB : Hid (∀ Y, Below w1.heap.size w1 Y → Y.cell? ⟨P, 4, none⟩ = some (.map (some m)) ∧ Y.cell? ⟨w.heap.size + 1, 0, none⟩ = some (.int .i64 p1) ∧ Y.cell? ⟨w.heap.size + 1, 1, none⟩ = some (.int .i64 p2) ∧ (Instr.lookup 64 (.map (some m)) (.agg #[.int .i64 p1, .int .i64 p2]) true).run Try.prog Y = .ok (.tuple #[.agg #[.int .i64 q1, .int .i64 q2], .bool isP]) Y) := fun Y hY => by
    refine ⟨(hY.cell (p := ⟨P, 4, none⟩) tl).trans t4, (hY.cell (p := ⟨w.heap.size + 1, 0, none⟩) xl).trans x0, (hY.cell (p := ⟨w.heap.size + 1, 1, none⟩) xl).trans x1, ?_⟩
    have := (HX1.out.2.2.1.below hY).mp.lookup kport Try.underlying64 zport (p1, p2) true
    simp only [if_true] at this
    rw [HQ.out.1, HQ.out.2] at this
    exact this
  refine region_hs 9 12 (fun Y => Y.cell? ⟨P, 4, none⟩ = some (.map (some m)) ∧ Y.cell? ⟨w.heap.size + 1, 0, none⟩ = some (.int .i64 p1) ∧ Y.cell? ⟨w.heap.size + 1, 1, none⟩ = some (.int .i64 p2) ∧ (Instr.lookup 64 (.map (some m)) (.agg #[.int .i64 p1, .int .i64 p2]) true).run Try.prog Y = .ok (.tuple #[.agg #[.int .i64 q1, .int .i64 q2], .bool isP]) Y) (by kernel_rfl) (by kernel_rfl) (fun _ _ d _ _ h => by cases d <;> exact h) (HSB.out _ ((Below.refl _ _).drew)) ?_
  simp only [List.take_succ_cons, List.take_zero, List.drop_succ_cons, List.drop_zero]
  iterate 9 (refine wpHead_step (v := ?_) (by rfl) ?_ ?_; rotate_left; (· intro W9 hSw; (try dsimp only at hSw); go_simp; try with_reducible rfl); (try simp only [Act.put, List.setIfInBounds_toArray, List.set_cons_zero, List.set_cons_succ]))
  refine wpHead_nil ?_
  refine wpMid_step (by rfl) (fun K9 hK9 => ?_)
  unfold Oper.wp
  go_simp
  refine hK9 _ _ ((HSB.out _ (by (repeat (first | exact Below.refl _ _ | (with_reducible refine Below.drew ?_) | (with_reducible refine Below.alloc ?_ (by (try simp); (try omega)) _) | (with_reducible refine Below.setCell ?_ (by (try simp); (try omega)) _) | (with_reducible refine Below.trans ?_ (Below.mono (by assumption) (by (try simp); (try omega))))))))) ?_
  (try simp only [Act.put, List.setIfInBounds_toArray, List.set_cons_zero, List.set_cons_succ])
  refine wpMid_step (by rfl) (fun K9 hK9 => ?_)
  unfold Oper.wp
  go_simp
  refine hK9 _ _ ((HSB.out _ (by (repeat (first | exact Below.refl _ _ | (with_reducible refine Below.drew ?_) | (with_reducible refine Below.alloc ?_ (by (try simp); (try omega)) _) | (with_reducible refine Below.setCell ?_ (by (try simp); (try omega)) _) | (with_reducible refine Below.trans ?_ (Below.mono (by assumption) (by (try simp); (try omega))))))))) ?_
  (try simp only [Act.put, List.setIfInBounds_toArray, List.set_cons_zero, List.set_cons_succ])
  refine wpMid_step (by rfl) (fun K9 hK9 => ?_)
  unfold Oper.wp
  go_simp
  refine hK9 _ _ ((HSB.out _ (by (repeat (first | exact Below.refl _ _ | (with_reducible refine Below.drew ?_) | (with_reducible refine Below.alloc ?_ (by (try simp); (try omega)) _) | (with_reducible refine Below.setCell ?_ (by (try simp); (try omega)) _) | (with_reducible refine Below.trans ?_ (Below.mono (by assumption) (by (try simp); (try omega))))))))) ?_
  (try simp only [Act.put, List.setIfInBounds_toArray, List.set_cons_zero, List.set_cons_succ])
  refine wpMid_nil ?_
  clear t4 x0 x1
  rw [HIS.out]
  go_upto_region 7 with fail
  go_upto_region 8 with fail
  refine absW (fun X => Below w1.heap.size w1 X ∧ X.heap[w1.heap.size + 1]? = some (.cells #[.slice none 0 0] 23 (0, 0))) ?_ ?_
  · have e1 := heap_alloc_new (w1.alloc (.cells #[.int .i64 q1, .int .i64 q2] 41)) (.cells #[.slice none 0 0] 23)
    rw [World.size_alloc] at e1
    first
    | exact ⟨by (repeat (first | exact Below.refl _ _ | (with_reducible refine Below.drew ?_) | (with_reducible refine Below.alloc ?_ (by (try simp); (try omega)) _) | (with_reducible refine Below.setCell ?_ (by (try simp); (try omega)) _) | (with_reducible refine Below.trans ?_ (Below.mono (by assumption) (by (try simp); (try omega)))))), e1⟩
    | exact ⟨by (repeat (first | exact Below.refl _ _ | (with_reducible refine Below.drew ?_) | (with_reducible refine Below.alloc ?_ (by (try simp); (try omega)) _) | (with_reducible refine Below.setCell ?_ (by (try simp); (try omega)) _) | (with_reducible refine Below.trans ?_ (Below.mono (by assumption) (by (try simp); (try omega)))))), by simpa using e1⟩
  rintro X2 ⟨hb2, hb12⟩
  obtain ⟨B, hB⟩ : ∃ B, B = w1.heap.size + 1 := ⟨_, rfl⟩
  rw [← hB] at hb12 ⊢
  have HB := Lib.hid hB
  have hpx := (hb2.block _ (heap_lt HX1.out.2.1)).trans HX1.out.2.1
  have x0 : X2.cell? ⟨w.heap.size + 1, 0, none⟩ = some (.int .i64 p1) := by simp [World.cell?, hpx]
  have x1 : X2.cell? ⟨w.heap.size + 1, 1, none⟩ = some (.int .i64 p2) := by simp [World.cell?, hpx]
  have xl := heap_lt hpx
  have HX2 := Lib.hid (And.intro hb2 hb12)
  clear hpx hB hb2 hb12
  go_wp2_with (go_at_call 23; refine (web_cells P p1 p2 _).mono ?_; rintro e X3 ⟨rfl, hpb3, hbw3, hb3⟩
               have HX3 := Lib.hid (And.intro hpb3 (And.intro hbw3 hb3))
               clear hpb3 hbw3 hb3 x0 x1 xl)
  have hw1 := HX1.out.2.2.1
  have hql : ∀ b ∈ webQ P m A VA L cells, b < w1.heap.size := hw1.lt
  have hz12 := HX2.out.1.size
  have hBl := heap_lt HX2.out.2
  have hz3 := HX3.out.2.2.size
  have hl3 := heap_lt HX3.out.1
  have hw3 := (hw1.below HX2.out.1).below HX3.out.2.2
  have hB3 : X3.heap[B]? = some (.cells #[.slice none 0 0] 23 (0, 0)) := (HX3.out.2.2.block B hBl).trans HX2.out.2
  have hne3 : X2.heap.size + 1 ∉ X2.heap.size :: webQ P m A VA L cells := fun hm => by
    rcases List.mem_cons.1 hm with h | h
    · omega
    · have := hql _ h; omega
  have HR : Hid (FrI B [] [B] X3 ∧ ∀ b ∈ [B], b ∉ X2.heap.size :: webQ P m A VA L cells ∧ b ∉ [X2.heap.size + 1]) := ⟨FrI.start hB3, fun b hb => by
    simp at hb; subst hb
    refine ⟨fun hm => ?_, by simp; omega⟩
    rcases List.mem_cons.1 hm with h | h
    · omega
    · have := hql _ h; have := HB.out; omega⟩
  have HSeq := Lib.hid (cells_seq 4 X2.heap.size (X2.heap.size + 1) P m A cap L VA VB ca cb cells f W (p1, p2) X3 hsg.out HAG.out HOK.out hc5 HPt.out hne3 HX3.out.1 HX3.out.2.1 hw3)
  rw [HWL.out] at HSeq
  have hQl : ∀ b ∈ (X2.heap.size :: webQ P m A VA L cells) ++ [X2.heap.size + 1], b < X3.heap.size := fun b hb => by
    simp only [List.mem_append, List.mem_cons, List.not_mem_nil, or_false] at hb
    rcases hb with (h | h) | h
    · omega
    · have := hql _ h; omega
    · omega
  have hwl5 : wl.length ≤ 5000 := by
    have hf : Fnd cells.length wl := by
      rw [← HWL.out]
      exact Fnd.walkF (fun c q hq => by obtain ⟨y, rfl⟩ := rowP_mem hq; exact lkM_lt HOK.out y) _ _ ((Fnd.nil _).add (isPt_lt (startP_is HOK.out HPt.out)))
    have := hf.len; omega
  have HWl5 := Lib.hid hwl5
  have HQl := Lib.hid hQl
  clear hql hz12 hBl hz3 hl3 hw3 hB3 hne3 hw1 hwl5 hQl
  refine rfo rfl (enters_of Try.func31 (by kernel_rfl) rfl) HSeq.out HQl.out (fun _ => rfl) (FrI B) (FrI.stab B) [B] HR.out.1 HR.out.2 actF ?assign ?body ?done
  case assign =>
    intro l x Y K hK
    unfold encI
    gi_wp2
    simpa [actF] using hK
  case body =>
    rintro l pre x D Y hpre ⟨V, c, hD, h1, h2⟩ hzY
    obtain ⟨k, hk⟩ : ∃ k, pre.length = k := ⟨_, rfl⟩
    have hkl : k + 1 ≤ 5000 := by
      have := hpre.length_le
      rw [List.length_append, hk] at this
      have := HWl5.out
      simp at *; omega
    rw [hk] at hD h1 h2
    have HI := Lib.hid (And.intro hD (And.intro h1 (And.intro h2 hk)))
    have n2 : Y.cell? ⟨B, 0, none⟩ = some (.slice V k c) := by simp [World.cell?, h1]
    have hBY := heap_lt h1
    have HRw := Lib.hid (h2.alloc (.cells #[.int .i64 x] 3))
    have HSr : Hid (Src (Y.alloc (.cells #[.int .i64 x] 3)) (some ⟨Y.heap.size, 0, none⟩) 1 1 [.int .i64 x]) := Src.block (cs := #[.int .i64 x]) (t := 3) (fr := (0, 0)) (heap_alloc_new Y _) rfl (by simp [Value.oneCell'])
    have hg63 : k + 1 ≤ maxLen := by simp only [maxLen]; omega
    have hg47 : (k + 1) * 8 ≤ 140737488355328 := by omega
    clear h1 h2 hD hk hpre
    simp only [actF]
    gi_wp2_with (gi_at_builtin; go_loud (refine wpListIn_row_append rfl _ _ _ rfl i0 _ 8 Try.underlying23 hi0 hi1 hi2 hi3 rfl rfl HRw.out _ 1 1 rfl [.int .i64 x] HSr.out hg63 hg47 ?_); intro sv5 w7 r5 k5 o5; obtain ⟨V5, cp5, rfl, hc5⟩ := r5.len
                 go_loud (have A5 := FrI.app HI.out.1 HI.out.2.1 HI.out.2.2.1 HI.out.2.2.2.symm (x := x) r5 k5 o5)
                 have z2 := A5.1
                 have z3 := A5.2.1
                 have HA5 := Lib.hid A5.2.2
                 clear A5 k5 o5 r5)
    exact HA5.out
  case done =>
    rintro Dl D Y hDl ⟨V, c, hD, h1, h2⟩ hG hkp hK
    have n2 : Y.cell? ⟨B, 0, none⟩ = some (.slice V wl.length c) := by simp [World.cell?, h1]
    have hBY := heap_lt h1
    have HY := Lib.hid (And.intro hD (And.intro h2 (And.intro hG (And.intro hkp hK))))
    clear h1 h2 hD hG hkp hK
    go_wp2
    obtain ⟨hD, hrow, hG, hkp, hK⟩ := HY.out
    have hDz := heap_lt hK
    have z1 := HX1.out.1.size
    have z2 := HX2.out.1.size
    have z3 := HX3.out.2.2.size
    have zB := HB.out
    refine leaveM hK ⟨.tuple #[.slice V wl.length c, .int .i64 0], by simp [results, Try.f12, go_sem], V, c, rfl, hrow.keep fun b hb => World.putObj_heap_other (fun e => ?_), fun b hb => ?_, ?_⟩
    · subst e
      obtain ⟨cu, hh⟩ := row_block hrow _ hb
      rw [hh] at hK; cases hK
    · rcases hG b (by rw [hD]; simp [hb]) with h | h
      · simp at h; omega
      · omega
    · refine below_put ?_ (by omega) _
      refine ((HX1.out.1.trans (HX2.out.1.mono z1)).trans (HX3.out.2.2.mono (by omega))).trans (hkp.below (by omega) (fun b hb => ?_))
      simp at hb
      omega
end
end Go.Proofs.Ytogbanlfihabpaa
