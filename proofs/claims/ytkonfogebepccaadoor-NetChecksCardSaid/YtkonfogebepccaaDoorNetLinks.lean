/-
  Contracts of net.before and net.links.
-/
import Derived.Test.YtkonfogebepccaaDoorRef03K
import Derived.Test.YtkonfogebepccaaDoorNetCheck
/-
  Plain: the answer's tidy wires are the tidy wires.
-/
namespace Go.Proofs.YtkonfogebepccaaDoor
open Go.RowKit
set_option linter.unusedVariables false

theorem filterMap_congr' {α β : Type} {l : List α} {f g : α → Option β} (h : ∀ x ∈ l, f x = g x) : l.filterMap f = l.filterMap g := by
  induction l with
  | nil => rfl
  | cons x r ih =>
    rw [List.filterMap_cons, List.filterMap_cons, h x (by simp), ih (fun y hy => h y (by simp [hy]))]
theorem take_succ_getD {α : Type} [Inhabited α] {W : List α} {k : Nat} (hk : k < W.length) : W.take (k + 1) = W.take k ++ [W.getD k default] := by
  rw [List.take_add_one, List.getElem?_eq_getElem hk, List.getD_eq_getElem?_getD, List.getElem?_eq_getElem hk]; rfl
theorem ends_append (A B : List (Pt × Pt)) : ends (A ++ B) = ends A ++ ends B := by simp [ends]
theorem ends_new {W : List (Pt × Pt)} (h : (ends W).Nodup) {k : Nat} (hk : k < W.length) {p : Pt} (hp : p ∈ ends (W.take k)) : p ≠ (W.getD k default).1 ∧ p ≠ (W.getD k default).2 := by
  have e : W = W.take k ++ ([W.getD k default] ++ W.drop (k + 1)) := by
    rw [← List.append_assoc, ← take_succ_getD hk, List.take_append_drop]
  rw [e, ends_append, ends_append, List.nodup_append] at h
  have := h.2.2 p hp
  exact ⟨this _ (by simp [ends]), this _ (by simp [ends])⟩
theorem lnk_mem {W : List (Pt × Pt)} {p q : Pt} (h : lnk W p = some q) : p ∈ ends W := by
  by_cases hp : p ∈ ends W
  · exact hp
  · rw [lnk_none hp] at h; cases h
section
variable {pn : Int → Nat} {cells : List Int} {free : Nat} {W : List (Pt × Pt)}
theorem lkK_at (hok : NetOk pn cells free W) {k : Nat} (hk : k ≤ W.length) {p q : Pt} (hp : isPt pn cells free p = true) (h : lnk (W.take k) p = some q) :
    (lkK pn cells free W k)[plc pn cells free p]? = some (plc pn cells free q : Int) := by
  induction k generalizing q with
  | zero => simp [lnk] at h
  | succ k ih =>
    have hkl : k < W.length := by omega
    have hm := ends_at hkl
    have i1 := hok.is _ hm.1
    have i2 := hok.is _ hm.2
    have hne := ends_ne hok.nodup hkl
    have l1 := plc_lt pn i1
    have l2 := plc_lt pn i2
    have hlen := lkK_len pn cells free W k
    rw [take_succ_getD hkl, show W.getD k default = ((W.getD k default).1, (W.getD k default).2) from rfl, lnk_snoc] at h
    rw [lkK]
    cases ho : lnk (W.take k) p with
    | some q' =>
      rw [ho] at h
      simp only [Option.some_or, Option.some.injEq] at h
      subst h
      obtain ⟨n1, n2⟩ := ends_new hok.nodup hkl (lnk_mem ho)
      rw [List.getElem?_set_ne (fun e => n2 (plc_inj pn hp i2 e.symm)), List.getElem?_set_ne (fun e => n1 (plc_inj pn hp i1 e.symm))]
      exact ih (by omega) ho
    | none =>
      rw [ho] at h
      simp only [Option.none_or] at h
      by_cases h1 : (W.getD k default).1 = p
      · rw [if_pos h1] at h
        simp only [Option.some.injEq] at h
        subst h h1
        rw [List.getElem?_set_ne (fun e => hne (plc_inj pn i1 i2 e.symm)), List.getElem?_set_self (by omega)]
      · rw [if_neg h1] at h
        by_cases h2 : (W.getD k default).2 = p
        · rw [if_pos h2] at h
          simp only [Option.some.injEq] at h
          subst h h2
          rw [List.getElem?_set_self (by rw [List.length_set]; omega)]
        · rw [if_neg h2] at h; cases h
/-- What the answer's loop has laid when k places were looked at. -/
def refW (P : List Pt) (l : List Int) (k : Nat) : List (Pt × Pt) := (List.range k).filterMap fun (i : Nat) => if (i : Int) < l.getD i 0 then some (P.getD i default, P.getD (l.getD i 0).toNat default) else none
theorem refW_succ (P : List Pt) (l : List Int) (k : Nat) : refW P l (k + 1) = refW P l k ++ (if (k : Int) < l.getD k 0 then [(P.getD k default, P.getD (l.getD k 0).toNat default)] else []) := by
  unfold refW
  rw [List.range_succ, List.filterMap_append]
  congr 1
  by_cases h : (k : Int) < l.getD k 0
  · rw [if_pos h, List.filterMap_cons, if_pos h]; rfl
  · rw [if_neg h, List.filterMap_cons, if_neg h]; rfl
theorem refW_tidy (hok : NetOk pn cells free W) : refW (allPs pn cells free) (lkK pn cells free W W.length) (firstN pn cells free cells.length) = tidyW (allPs pn cells free) W := by
  have e : allPs pn cells free = (List.range (firstN pn cells free cells.length)).map fun (i : Nat) => (allPs pn cells free).getD i default := by
    refine List.ext_getElem (by simp [allPs_len]) fun i h1 h2 => ?_
    simp [List.getD_eq_getElem?_getD, h1]
  unfold refW tidyW
  conv => rhs; rw [e]
  rw [List.filterMap_map]
  refine filterMap_congr' fun i hi => ?_
  have hil : i < (allPs pn cells free).length := by rw [allPs_len]; exact List.mem_range.1 hi
  have hg : (allPs pn cells free).getD i default = (allPs pn cells free)[i] := by rw [List.getD_eq_getElem?_getD, List.getElem?_eq_getElem hil]; rfl
  have hp := allPs_is pn (List.getElem_mem hil)
  have hpi := plc_at pn (List.getElem?_eq_getElem hil)
  simp only [Function.comp, hg]
  generalize (allPs pn cells free)[i] = p at hp hpi
  obtain ⟨q, hq1, hq2⟩ := hok.lnk hp
  have hl := lkK_at hok (Nat.le_refl _) hp (by rw [List.take_length]; exact hq1)
  rw [hpi] at hl
  have hl2 : (lkK pn cells free W W.length).getD i 0 = (plc pn cells free q : Int) := by rw [List.getD_eq_getElem?_getD, hl]; rfl
  have hq3 : (allPs pn cells free).getD (plc pn cells free q) default = q := by rw [List.getD_eq_getElem?_getD, allPs_plc pn hq2]; rfl
  rw [hl2, hq1, Int.toNat_natCast, hq3]
  show _ = if bef p q = true then some (p, q) else none
  rw [bef_plc pn hp hq2, hpi]
  by_cases h : i < plc pn cells free q
  · rw [if_pos (by omega), if_pos (by simpa using h)]
  · rw [if_neg (by omega), if_neg (by simpa using h)]
end
end Go.Proofs.YtkonfogebepccaaDoor
namespace Go.Proofs.YtkonfogebepccaaDoor
open Go.RowKit
attribute [local go_sem] cell_set
set_option maxRecDepth 100000
set_option linter.unusedVariables false

set_option maxHeartbeats 400000 in
theorem before_is (a b c d : Int) (w : World) : Calls Tryd.prog 102 #[.agg #[.int .i64 a, .int .i64 b], .agg #[.int .i64 c, .int .i64 d]] w fun e w' => e = .returned (.bool (bef (a, b) (c, d))) ∧ Below w.heap.size w w' := by
  have HB : Hid (bef (a, b) (c, d) = decide (a < c ∨ a = c ∧ b < d)) := rfl
  rcases (by omega : a < c ∨ (¬ a < c ∧ a ≠ c) ∨ (¬ a < c ∧ a = c)) with h | ⟨h, h'⟩ | ⟨h, rfl⟩
  · go_enter Tryd.func102, Tryd.ntmps102
    go_wp2
    go_ret
    exact ⟨ret_b (by rw [HB.out]; simp; omega), by (repeat (first | exact Below.refl _ _ | (with_reducible refine Below.drew ?_) | (with_reducible refine Below.alloc ?_ (by (try simp); (try omega)) _) | (with_reducible refine Below.setCell ?_ (by (try simp); (try omega)) _) | (with_reducible refine Below.trans ?_ (Below.mono (by assumption) (by (try simp); (try omega))))))⟩
  · have h2 : (a == c) = false := by rw [beq_eq_false_iff_ne]; exact h'
    go_enter Tryd.func102, Tryd.ntmps102
    go_wp2
    go_ret
    exact ⟨ret_b (by rw [HB.out]; simp; omega), by (repeat (first | exact Below.refl _ _ | (with_reducible refine Below.drew ?_) | (with_reducible refine Below.alloc ?_ (by (try simp); (try omega)) _) | (with_reducible refine Below.setCell ?_ (by (try simp); (try omega)) _) | (with_reducible refine Below.trans ?_ (Below.mono (by assumption) (by (try simp); (try omega))))))⟩
  · go_enter Tryd.func102, Tryd.ntmps102
    go_wp2
    go_ret
    exact ⟨ret_b (by rw [HB.out]; simp), by (repeat (first | exact Below.refl _ _ | (with_reducible refine Below.drew ?_) | (with_reducible refine Below.alloc ?_ (by (try simp); (try omega)) _) | (with_reducible refine Below.setCell ?_ (by (try simp); (try omega)) _) | (with_reducible refine Below.trans ?_ (Below.mono (by assumption) (by (try simp); (try omega))))))⟩

/-- What the ports are linked to, when k wires were read. -/
def linkF (W : List (Pt × Pt)) : Nat → Pt → Option Value
  | 0 => fun _ => none
  | k + 1 => upd (upd (linkF W k) (W.getD k default).1 (encPt (W.getD k default).2)) (W.getD k default).2 (encPt (W.getD k default).1)
theorem linkF_lnk {W : List (Pt × Pt)} (hn : (ends W).Nodup) {k : Nat} (hk : k ≤ W.length) : linkF W k = fun p => (lnk (W.take k) p).map encPt := by
  induction k with
  | zero => funext p; simp [linkF, lnk]
  | succ k ih =>
    have hkl : k < W.length := by omega
    funext p
    rw [linkF, ih (by omega), take_succ_getD hkl, show W.getD k default = ((W.getD k default).1, (W.getD k default).2) from rfl, lnk_snoc]
    have hne := ends_ne hn hkl
    unfold upd
    by_cases h2 : p = (W.getD k default).2
    · rw [if_pos h2]
      have : lnk (W.take k) p = none := by
        refine lnk_none fun hp => ?_
        exact (ends_new hn hkl hp).2 h2
      rw [this, Option.none_or, if_neg (by rw [h2]; exact hne), if_pos h2.symm]
      rfl
    · rw [if_neg h2]
      by_cases h1 : p = (W.getD k default).1
      · rw [if_pos h1]
        have : lnk (W.take k) p = none := by
          refine lnk_none fun hp => ?_
          exact (ends_new hn hkl hp).1 h1
        rw [this, Option.none_or, if_pos h1.symm]
        rfl
      · rw [if_neg h1]
        have e1 : ¬ (W.getD k default).1 = p := fun e => h1 e.symm
        have e2 : ¬ (W.getD k default).2 = p := fun e => h2 e.symm
        rw [if_neg e1, if_neg e2]
        show Option.map encPt (lnk (W.take k) p) = _
        cases lnk (W.take k) p <;> rfl

theorem lk_S {m b : Nat} {w w' : World} {x0 x1 x2 x3 : Value} (k : Kp [m] w w') (hb : b < w.heap.size) (hne : b ≠ m)
    (h : w.cell? ⟨b, 0, none⟩ = some x0 ∧ w.cell? ⟨b, 1, none⟩ = some x1 ∧ w.cell? ⟨b, 2, none⟩ = some x2 ∧ w.cell? ⟨b, 3, none⟩ = some x3) :
    w'.cell? ⟨b, 0, none⟩ = some x0 ∧ w'.cell? ⟨b, 1, none⟩ = some x1 ∧ w'.cell? ⟨b, 2, none⟩ = some x2 ∧ w'.cell? ⟨b, 3, none⟩ = some x3 :=
  ⟨(k.cell (p := ⟨b, 0, none⟩) hb (by simpa using hne)).trans h.1, (k.cell (p := ⟨b, 1, none⟩) hb (by simpa using hne)).trans h.2.1, (k.cell (p := ⟨b, 2, none⟩) hb (by simpa using hne)).trans h.2.2.1, (k.cell (p := ⟨b, 3, none⟩) hb (by simpa using hne)).trans h.2.2.2⟩
set_option maxHeartbeats 1000000 in
theorem net_links (VA VB : Option Addr) (ca cb : Nat) (cells : List Int) (free : Int) (W : List (Pt × Pt)) (w : World) (HW : Hid (WrRd w VB W)) (hw : W.length ≤ 40000) :
    Calls Tryd.prog 76 #[netV VA ca cells free VB cb W] w fun e w' => ∃ m, e = .returned (.map (some m)) ∧ MP encPt w' m (linkF W W.length) ∧ w.heap.size ≤ m ∧ Below w.heap.size w w' := by
  go_enter Tryd.func76, Tryd.ntmps76
  have hmm := @run_makeMap Tryd.prog
  go_upto_region 2 with (fail)
  clear hmm
  have hX0 : Below w.heap.size w ((w.alloc (.cells #[.slice VA cells.length ca, .int .i64 free, .slice VB W.length cb] 64)).alloc (.map #[] 0)) := by (repeat (first | exact Below.refl _ _ | (with_reducible refine Below.drew ?_) | (with_reducible refine Below.alloc ?_ (by (try simp); (try omega)) _) | (with_reducible refine Below.setCell ?_ (by (try simp); (try omega)) _) | (with_reducible refine Below.trans ?_ (Below.mono (by assumption) (by (try simp); (try omega))))))
  refine absW (fun X => MP encPt X (w.heap.size + 1) (linkF W 0) ∧ X.cell? ⟨w.heap.size, 2, none⟩ = some (.slice VB W.length cb) ∧ Below w.heap.size w X ∧ w.heap.size + 1 < X.heap.size)
    ⟨by have := MP.made (enc := encPt) (w.alloc (.cells #[.slice VA cells.length ca, .int .i64 free, .slice VB W.length cb] 64)); simpa [linkF] using this, by go_simp, hX0, by simp⟩ ?_
  rintro X ⟨hmp, hc, hbe, hlt⟩
  have HX : Hid (MP encPt X (w.heap.size + 1) (linkF W 0) ∧ Below w.heap.size w X) := ⟨hmp, hbe⟩
  clear hX0 hmp hbe
  go_wp2
  go_loopw [5, 10] (fun _ i wr => ∃ k : Nat, i = .int .i64 k ∧ k ≤ W.length ∧ Hid (MP encPt wr (w.heap.size + 1) (linkF W k) ∧ Below w.heap.size w wr)) (fun _ i _ => W.length - (intOf i).toNat)
  case atStart => exact ⟨0, rfl, by omega, HX⟩
  case round =>
    obtain ⟨k, rfl, hk, HR⟩ := hrel
    clear HX hc hlt
    by_cases hlt : k < W.length
    · obtain ⟨b, off, rfl, hb, e0, e1, e2, e3⟩ := HW.out k hlt
      have d0 := (HR.out.2.cell (p := ⟨b, off + k * 4, none⟩) hb).trans e0
      have d1 := (HR.out.2.cell (p := ⟨b, off + k * 4 + 1, none⟩) hb).trans e1
      have d2 := (HR.out.2.cell (p := ⟨b, off + k * 4 + 2, none⟩) hb).trans e2
      have d3 := (HR.out.2.cell (p := ⟨b, off + k * 4 + 3, none⟩) hb).trans e3
      clear e0 e1 e2 e3
      have hnx : linkF W (k + 1) = upd (upd (linkF W k) (W.getD k default).1 (encPt (W.getD k default).2)) (W.getD k default).2 (encPt (W.getD k default).1) := rfl
      generalize W.getD k default = x at d0 d1 d2 d3 hnx
      obtain ⟨⟨x0, x1⟩, x2, x3⟩ := x
      have HNX := Lib.hid hnx
      clear hnx
      go_wp2_with fail
      refine absW (fun X => Kp [] wr X ∧ X.cell? ⟨wr.heap.size, 0, none⟩ = some (.int .i64 x0) ∧ X.cell? ⟨wr.heap.size, 1, none⟩ = some (.int .i64 x1) ∧ X.cell? ⟨wr.heap.size, 2, none⟩ = some (.int .i64 x2) ∧ X.cell? ⟨wr.heap.size, 3, none⟩ = some (.int .i64 x3) ∧ wr.heap.size < X.heap.size)
        ⟨(Kp.refl _ _).alloc _, by go_simp, by go_simp, by go_simp, by go_simp, by simp⟩ ?_
      rintro X ⟨hkx, c0, c1, c2, c3, hlx⟩
      have hml := HR.out.1.lt
      have HM : Hid (MP encPt X (w.heap.size + 1) (linkF W k)) := HR.out.1.keep (hkx.block _ hml (by simp))
      have hmX : w.heap.size + 1 < X.heap.size := by omega
      have hne : wr.heap.size ≠ w.heap.size + 1 := by omega
      clear d0 d1 d2 d3
      go_region_held3 (fun w' => w'.cell? ⟨wr.heap.size, 0, none⟩ = some (.int .i64 x0) ∧ w'.cell? ⟨wr.heap.size, 1, none⟩ = some (.int .i64 x1) ∧ w'.cell? ⟨wr.heap.size, 2, none⟩ = some (.int .i64 x2) ∧ w'.cell? ⟨wr.heap.size, 3, none⟩ = some (.int .i64 x3))
        (first | exact S9 | exact S8 | exact ⟨c0, c1, c2, c3⟩)
        (first
          | (refine up_map_update (k := (x0, x1)) (v := encPt (x2, x3)) HM.out.drew kport Tryd.underlying122 ?_; intro w8 mp8 k8 z8
             have S8 := lk_S k8 hlx hne ⟨c0, c1, c2, c3⟩)
          | (refine up_map_update (k := (x2, x3)) (v := encPt (x0, x1)) mp8 kport Tryd.underlying122 ?_; intro w9 mp9 k9 z9
             have S9 := lk_S k9 (by rw [z8]; exact hlx) hne S8))
      have K9 : Kp [w.heap.size + 1] wr w9 := ((((hkx.mono (by simp)).drew).trans k8 (by simp)).trans k9 (by simp))
      have HR9 : Hid (MP encPt w9 (w.heap.size + 1) (linkF W (k + 1)) ∧ Below w.heap.size w w9) := ⟨by rw [HNX.out]; exact mp9, HR.out.2.trans (K9.below HR.out.2.size (by simp))⟩
      clear S8 S9 k8 k9 z8 z9 mp8 mp9 K9
      go_wp2
      go_roundw
      case rel => exact ⟨k + 1, by go_num, by omega, HR9⟩
      case measure => simp [intOf]; omega
    · obtain rfl : k = W.length := by omega
      go_wp2
      go_ret
      exact ⟨_, rfl, HR.out.1, by omega, HR.out.2⟩
end Go.Proofs.YtkonfogebepccaaDoor
