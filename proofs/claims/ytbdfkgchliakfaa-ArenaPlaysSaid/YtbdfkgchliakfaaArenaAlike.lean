/-
  skeinlaw07.alike: an arena and the document's tell the same.
-/
import Derived.Test.YtbdfkgchliakfaaArenaRow
import Derived.Test.YtbdfkgchliakfaaRArenaWalk
namespace Go.Proofs.Ytbdfkgchliakfaa
open Go.RowKit
attribute [local go_sem] cell_set
set_option maxRecDepth 100000

theorem neq_pair2 (w : World) (a b c d : Int) : (binOp .neq 77 (.agg #[.int .i64 a, .int .i64 b]) (.agg #[.int .i64 c, .int .i64 d])).run Try.prog w = .ok (.bool (!(a == c && b == d))) w := by
  obtain ⟨i, hi, _, hs, _⟩ := info_parts int_info
  exact run_neq_array2 w a c b d Try.underlying77 Try.underlying3 hi hs
attribute [local go_sem high] neq_pair2
theorem Ars.upto_pre (S : Ars) {k n : Nat} (h : k ≤ n) : (S.upto k).length ≤ (S.upto n).length ∧ ∀ j, j < (S.upto k).length → (S.upto n)[j]? = (S.upto k)[j]? := by
  induction n with
  | zero =>
    have : k = 0 := by omega
    subst this; exact ⟨Nat.le_refl _, fun _ _ => rfl⟩
  | succ n ih =>
    by_cases e : k = n + 1
    · subst e; exact ⟨Nat.le_refl _, fun _ _ => rfl⟩
    · obtain ⟨h1, h2⟩ := ih (by omega)
      rw [show S.upto (n + 1) = S.upto n ++ _ from rfl]
      refine ⟨by rw [List.length_append]; omega, fun j hj => ?_⟩
      rw [List.getElem?_append, if_pos (by omega), h2 j hj]
theorem Ars.upto_at (S : Ars) {k n : Nat} (h : k < n) {ag : Int} {ws : List Int} (hc : S.cells[k]? = some (some (ag, ws))) : (S.upto k).length < (S.upto n).length ∧ (S.upto n)[(S.upto k).length]? = some (k, ag) ∧ (S.upto (k + 1)).length = (S.upto k).length + 1 := by
  have e : S.upto (k + 1) = S.upto k ++ [(k, ag)] := by rw [Ars.upto, hc]
  have hl : (S.upto (k + 1)).length = (S.upto k).length + 1 := by rw [e]; simp
  obtain ⟨h1, h2⟩ := S.upto_pre (show k + 1 ≤ n by omega)
  refine ⟨by omega, ?_, hl⟩
  rw [h2 _ (by omega), e]
  simp
theorem Ars.upto_skip (S : Ars) {k : Nat} (hc : S.cells[k]? = some none) : (S.upto (k + 1)).length = (S.upto k).length := by rw [Ars.upto, hc]; simp

set_option maxHeartbeats 2000000 in
theorem alike_ok (A R : Nat) (S : Ars) (F G : List Nat) (w : World) (h : PA w A S F) (hr : RA w R S G) :
    Calls Try.prog 46 #[.pointer (some ⟨A, 0, none⟩), .pointer (some ⟨R, 0, none⟩)] w fun e w' => e = .returned (.bool true) ∧ Below w.heap.size w w' := by
  obtain ⟨VC, VB, cc, cb, c0, c1, c2, c3, c4, cf, hRl⟩ := hr.head
  have hm2 := h.ok.most2
  have hcl := h.ok.len
  have HP0 : Hid (PA w.drew A S F) := h.keep fun _ _ => rfl
  have HR := Lib.hid hr
  clear h hr cf c2
  go_enter Try.func46, Try.ntmps46
  go_wp2_with fail
  go_region_held3 (fun w' => w'.cell? ⟨R, 0, none⟩ = some (.int .i64 S.most) ∧ w'.cell? ⟨R, 1, none⟩ = some (.slice VC S.cells.length cc) ∧ w'.cell? ⟨R, 3, none⟩ = some (.int .i64 S.live) ∧ w'.cell? ⟨R, 4, none⟩ = some (.int .i64 S.cells.length)) (first | exact S2 | exact ⟨c0, c1, c3, c4⟩)
    (first
      | (go_at_call 66; refine (ar_field _ S F _ HP0.out).mono ?_; rintro e w1 ⟨rfl, rfl⟩)
      | (go_at_call 61; refine (ar_live _ S F _ HP0.out).mono ?_; rintro e w2 ⟨rfl, hb2⟩
         have HP2 : Hid (PA w2 A S F) := HP0.out.below hb2
         have S2 : w2.cell? ⟨R, 0, none⟩ = some (.int .i64 S.most) ∧ w2.cell? ⟨R, 1, none⟩ = some (.slice VC S.cells.length cc) ∧ w2.cell? ⟨R, 3, none⟩ = some (.int .i64 S.live) ∧ w2.cell? ⟨R, 4, none⟩ = some (.int .i64 S.cells.length) :=
           ⟨(hb2.cell (p := ⟨R, 0, none⟩) hRl).trans c0, (hb2.cell (p := ⟨R, 1, none⟩) hRl).trans c1, (hb2.cell (p := ⟨R, 3, none⟩) hRl).trans c3, (hb2.cell (p := ⟨R, 4, none⟩) hRl).trans c4⟩)
      | (go_at_call 48; refine (ar_peak _ S F _ HP2.out).mono ?_; rintro e w3 ⟨rfl, rfl⟩)
      | (go_at_call 47; refine (ar_used _ S F _ HP2.out).mono ?_; rintro e w4 ⟨rfl, rfl⟩))
  have hbw2 : Below w.heap.size w w2 := ((Below.refl _ w).drew).trans hb2
  have HB2 := Lib.hid hbw2
  have HR2 : Hid (RA w2 R S G) := HR.out.below hbw2
  clear S2 hb2 hbw2
  go_wp2_with fail
  refine (ar_next _ S F _ HP2.out).mono ?_; rintro e w5 ⟨rfl, hb5⟩
  have HR5 : Hid (RA w5 R S G) := HR2.out.below hb5
  have HP5 : Hid (PA w5 A S F) := HP2.out.below hb5
  have HB5 : Hid (Below w.heap.size w w5) := HB2.out.trans (hb5.mono HB2.out.size)
  clear hb5
  go_wp2_with fail
  refine (rr_next _ S G _ HR5.out).mono ?_; rintro e w6 ⟨rfl, hb6⟩
  have HR6 : Hid (RA w6 R S G) := HR5.out.below hb6
  have HP6 : Hid (PA w6 A S F) := HP5.out.below hb6
  have HB6 : Hid (Below w.heap.size w w6) := HB5.out.trans (hb6.mono HB5.out.size)
  clear hb6
  go_wp2_with fail
  refine (row_of _ S F _ HP6.out).mono ?_; rintro e w7 ⟨v, rfl, hb7, row7⟩
  obtain ⟨V, cp, rfl, hcp⟩ := row7.len
  have HB7 : Hid (Below w.heap.size w w7) := HB6.out.trans (hb7.mono HB6.out.size)
  have T7 : Hid (Below w.heap.size w w7 ∧ RA w7 R S G ∧ Row w7 77 2 (.slice V (S.upto S.cells.length).length cp) (S.upto S.cells.length).length (ncells (S.upto S.cells.length))) := ⟨HB7.out, HR6.out.below hb7, row7⟩
  clear hb7 row7
  have hul := S.upto_len S.cells.length
  clear c0 c1 c3 c4
  go_wp2_with fail
  have hpos : ∀ k, Hid ((S.upto k).length ≤ k) := fun k => Lib.hid (S.upto_len k)
  go_loopw [10, 11] (fun a c wr => ∃ k : Nat, c = .int .i64 k ∧ k ≤ S.cells.length ∧ a = .int .i64 ((S.upto k).length : Int) ∧ Hid (Below w.heap.size w wr ∧ RA wr R S G ∧ Row wr 77 2 (.slice V (S.upto S.cells.length).length cp) (S.upto S.cells.length).length (ncells (S.upto S.cells.length)))) (fun _ c _ => S.cells.length - (intOf c).toNat)
  case atStart => exact ⟨0, rfl, by omega, rfl, T7⟩
  case round =>
    obtain ⟨k, rfl, hk, rfl, X⟩ := hrel
    obtain ⟨xb, xr, xrow⟩ := X.out
    obtain ⟨VC2, VB2, cc2, cb2, d0, d1, d2, d3, d4, df, hRl2⟩ := xr.head
    have hkl := (hpos k).out
    clear d0 d2 d3 d4 df
    by_cases hlt : k < S.cells.length
    · obtain ⟨c, hck⟩ : ∃ c, S.cells[k]? = some c := ⟨_, List.getElem?_eq_getElem hlt⟩
      obtain ⟨g, cc', r, k1, hgl, ha, hr, hf, _⟩ := xr.at_ hck
      cases c with
      | none =>
        cases r with
        | some y => exact ha.elim
        | none =>
          have z0 : wr.cell? ⟨g, k * 3, none⟩ = some (.bool false) := hr 0 (by omega)
          have HU := Lib.hid (S.upto_skip hck)
          clear hr ha hf xb xr xrow d1
          go_wp2
          go_roundw
          case rel => exact ⟨k + 1, by go_num, by omega, by rw [HU.out], X⟩
          case measure => simp [intOf]; omega
      | some x =>
        obtain ⟨ag, ws⟩ := x
        cases r with
        | none => exact ha.elim
        | some y =>
          obtain ⟨ag', vv⟩ := y
          obtain ⟨rfl, _⟩ := ha
          obtain ⟨u1, u2, u3⟩ := S.upto_at hlt hck
          have z0 : wr.cell? ⟨g, k * 3, none⟩ = some (.bool true) := hr 0 (by omega)
          have z1 : wr.cell? ⟨g, k * 3 + 1, none⟩ = some (.int .i64 ag') := hr 1 (by omega)
          obtain ⟨gl, cap, cur, hv2, _⟩ := xrow.some_ (by omega)
          simp only [Value.slice.injEq, true_and] at hv2
          obtain ⟨rfl, rfl⟩ := hv2
          have hge : (S.upto S.cells.length)[(S.upto k).length] = (k, ag') := by
            rw [List.getElem?_eq_getElem u1] at u2; exact Option.some.inj u2
          obtain ⟨n1, n2⟩ := ncells_at (S.upto S.cells.length) u1
          rw [hge] at n1 n2
          have e0 : wr.cell? ⟨gl, (S.upto k).length * 2, none⟩ = some (.int .i64 (k : Int)) := (xrow.cellAt _ (by omega)).trans n1
          have e1 : wr.cell? ⟨gl, (S.upto k).length * 2 + 1, none⟩ = some (.int .i64 ag') := (xrow.cellAt _ (by omega)).trans n2
          have HU := Lib.hid u3
          have HXD : Hid (∀ nq, Below w.heap.size w (wr.drewN nq) ∧ RA (wr.drewN nq) R S G ∧ Row (wr.drewN nq) 77 2 (.slice (some ⟨gl, 0, none⟩) (S.upto S.cells.length).length cp) (S.upto S.cells.length).length (ncells (S.upto S.cells.length))) :=
            fun nq => ⟨below_drewN xb _, xr.keep fun _ _ => rfl, xrow.keep fun _ _ => rfl⟩
          clear hr hf xb xr xrow d1 n1 n2 hge u2 u3
          go_wp2_with fail
          go_quiet (fail)
          go_wp2
          go_roundw
          case rel => exact ⟨k + 1, by go_num, by omega, by rw [HU.out]; simp, HXD.out _⟩
          case measure => simp [intOf]; omega
    · obtain rfl : k = S.cells.length := by omega
      clear xr xrow
      go_wp2
      go_ret
      exact ⟨rfl, xb⟩
end Go.Proofs.Ytbdfkgchliakfaa
