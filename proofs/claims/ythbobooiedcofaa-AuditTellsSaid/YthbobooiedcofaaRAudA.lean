/-
  The document's audit: the agents of a wiring.
-/
import Derived.Test.YthbobooiedcofaaRWirOpen
import Derived.Test.YthbobooiedcofaaAudCells
import Derived.Deep.RegionHeld3
namespace Go.Proofs.Ythbobooiedcofaa
open Go.RowKit
attribute [local go_sem] cell_set
set_option maxRecDepth 100000
set_option linter.unusedVariables false

theorem RA.cell_at {w : World} {A : Nat} {S : Ars} {FR : List Nat} (h : RA w A S FR) {k : Nat} {x : Option (Int × List Int)} (hx : S.cells[k]? = some x) : ∃ (g cc : Nat) (bv : Bool) (ag : Int) (D : Option Addr) (m cw : Nat), w.cell? ⟨A, 1, none⟩ = some (.slice (some ⟨g, 0, none⟩) S.cells.length cc) ∧ g < w.heap.size ∧
    w.cell? ⟨g, k * 3, none⟩ = some (.bool bv) ∧ w.cell? ⟨g, k * 3 + 1, none⟩ = some (.int .i64 ag) ∧ w.cell? ⟨g, k * 3 + 2, none⟩ = some (.slice D m cw) ∧ ((x = none ∧ bv = false) ∨ (∃ ws, x = some (ag, ws) ∧ bv = true ∧ m = ws.length ∧ m ≤ 7)) := by
  obtain ⟨g, cc, r, k1, hgl, ha, hr, hf, hlt⟩ := h.at_ hx
  have h0 := hr 0 (by omega)
  have h1 := hr 1 (by omega)
  have h2 := hr 2 (by omega)
  have hok := h.ok
  cases x with
  | none =>
    cases r with
    | none => exact ⟨g, cc, false, 0, none, 0, 0, k1, hgl, h0, h1, h2, .inl ⟨rfl, rfl⟩⟩
    | some r => exact ha.elim
  | some x =>
    obtain ⟨ag, ws⟩ := x
    cases r with
    | none => exact ha.elim
    | some r =>
      obtain ⟨ag', v⟩ := r
      obtain ⟨V, cw, hv, _⟩ := ha.2.len
      obtain ⟨rfl, _⟩ := ha
      have hc := hok.cell _ _ _ hx
      refine ⟨g, cc, true, ag', V, ws.length, cw, k1, hgl, h0, h1, ?_, .inr ⟨ws, rfl, rfl, rfl, hc.2.2.2.1⟩⟩
      rw [h2, ← hv]; rfl
def auAt (o : Option (Nat × Int)) : Int := match o with
  | none => -1
  | some x => (x.1 : Int)
theorem oq_here {o : Oper} {l : List Oper} : (o :: l).toArray[0]? = some o := rfl
theorem oq_next {o x : Oper} {l : List Oper} {i : Nat} (h : l.toArray[i]? = some o) : (x :: l).toArray[i + 1]? = some o := by
  rw [List.getElem?_toArray] at h ⊢
  rw [List.getElem?_cons_succ]; exact h
section
variable (B A : Nat) (S : Wir) (FA : List Nat) (As : Option Addr) (n cap : Nat) (L : List (ByteArray × Int)) (w : World)
set_option maxHeartbeats 2000000 in
theorem rw_agents (hn : n = L.length) (hl : L.length ≤ maxLen) (HL : Hid (AgRd w As L)) (hs : Hid (SigOk L)) (h : RG w B A S FA) :
    Calls Try.prog 124 #[.pointer (some ⟨B, 0, none⟩), .slice As n cap] w fun e w' => e = .returned (.int .i64 (auAt (S.agBad (portsN L) (S.A.upto S.A.cells.length)))) ∧ Below w.heap.size w w' := by
  subst hn
  have HG := Lib.hid h
  have hcl := h.ok.a.len
  have hm2 := h.ok.a.most2
  have H0 : Hid (S.agBad (portsN L) (S.A.upto 0) = none ∧ Below w.heap.size w w) := ⟨rfl, Below.refl _ _⟩
  obtain ⟨n, hn⟩ : ∃ n, S.A.cells.length = n := ⟨_, rfl⟩
  rw [hn] at hcl ⊢
  have HNE := Lib.hid hn
  clear hn h
  go_enter Try.func124, Try.ntmps124
  go_wp2_with fail
  go_loopw [5] (fun i wr => ∃ k : Nat, i = .int .i64 k ∧ k ≤ n ∧ Hid (S.agBad (portsN L) (S.A.upto k) = none ∧ Below w.heap.size w wr)) (fun i _ => n - (intOf i).toNat)
  case atStart => exact ⟨0, rfl, Nat.zero_le _, H0⟩
  case round =>
    obtain ⟨k, rfl, hk, HR⟩ := hrel
    clear H0
    have hg := HG.out.below HR.out.2
    have c0 := hg.cells.1
    obtain ⟨P0, FR, _, hra, _⟩ := hg.split
    have hBl := hg.lt
    have hAl : A < wr.heap.size := hra.lt A (by obtain ⟨_, _, _, _, _, _, _, rfl, _⟩ := hra; simp)
    by_cases hlt : k < n
    · obtain ⟨x, hx⟩ : ∃ x, S.A.cells[k]? = some x := ⟨_, List.getElem?_eq_getElem (by rw [HNE.out]; exact hlt)⟩
      obtain ⟨g, cc, bv, ag, D, m, cw, d0, hgl, d1, d2, d3, hor⟩ := hra.cell_at hx
      rw [HNE.out] at d0
      rcases hor with ⟨rfl, rfl⟩ | ⟨ws, rfl, rfl, rfl, hm7⟩
      · have hu : S.A.upto (k + 1) = S.A.upto k := by rw [Ars.upto, hx]; simp
        have HU := Lib.hid hu
        clear hu hx hg hra
        go_upto_region 5 with fail
        refine wp_region_noPanic ?_
        refine wp_region_held_drew (S := fun Y => Y.cell? ⟨wr.heap.size, 0, none⟩ = some (.bool false)) (by kernel_rfl) (by go_simp) (fun hHeld => ?_)
        refine wpAnyH_take (i := 0) (oi := ?oi0) ?hi0 (by kernel_rfl) (by kernel_rfl) (by kernel_rfl) (fun _ _ _ h => h) (v := ?v0) (Or.inl ⟨?hw0, ?hy0⟩) (by assumption) ?rest0
        case hi0 => ((iterate 0 (refine oq_next ?_)); exact oq_here)
        case hw0 => rfl
        case hy0 => intro w hSw; (try dsimp only at hSw); go_simp; try (with_reducible rfl)
        try simp only [Act.put, List.setIfInBounds_toArray, List.set_cons_zero, List.set_cons_succ]
        refine wpAnyH_take (i := 1) (oi := ?oi1) ?hi1 (by kernel_rfl) (by kernel_rfl) (by kernel_rfl) (fun _ _ _ h => h) (v := ?v1) (Or.inl ⟨?hw1, ?hy1⟩) (by assumption) ?rest1
        case hi1 => ((iterate 1 (refine oq_next ?_)); exact oq_here)
        case hw1 => rfl
        case hy1 => intro w hSw; (try dsimp only at hSw); go_simp; try (with_reducible rfl)
        try simp only [Act.put, List.setIfInBounds_toArray, List.set_cons_zero, List.set_cons_succ]
        refine wpAnyH_take (i := 2) (oi := ?oi2) ?hi2 (by kernel_rfl) (by kernel_rfl) (by kernel_rfl) (fun _ _ _ h => h) (v := ?v2) (Or.inl ⟨?hw2, ?hy2⟩) (by assumption) ?rest2
        case hi2 => ((iterate 2 (refine oq_next ?_)); exact oq_here)
        case hw2 => rfl
        case hy2 => intro w hSw; (try dsimp only at hSw); go_simp; try (with_reducible rfl)
        try simp only [Act.put, List.setIfInBounds_toArray, List.set_cons_zero, List.set_cons_succ]
        refine wpAnyH_take (i := 3) (oi := ?oi3) ?hi3 (by kernel_rfl) (by kernel_rfl) (by kernel_rfl) (fun _ _ _ h => h) (Or.inr ⟨?hw3, rfl⟩) (by assumption) ?rest3
        case hi3 => ((iterate 3 (refine oq_next ?_)); exact oq_here)
        case hw3 => rfl
        try simp only [Act.put, List.setIfInBounds_toArray, List.set_cons_zero, List.set_cons_succ]
        refine wpAnyH_take (i := 4) (oi := ?oi4) ?hi4 (by kernel_rfl) (by kernel_rfl) (by kernel_rfl) (fun _ _ _ h => h) (Or.inr ⟨?hw4, rfl⟩) (by assumption) ?rest4
        case hi4 => ((iterate 4 (refine oq_next ?_)); exact oq_here)
        case hw4 => rfl
        try simp only [Act.put, List.setIfInBounds_toArray, List.set_cons_zero, List.set_cons_succ]
        refine wpAnyH_take (i := 5) (oi := ?oi5) ?hi5 (by kernel_rfl) (by kernel_rfl) (by kernel_rfl) (fun _ _ _ h => h) (Or.inr ⟨?hw5, rfl⟩) (by assumption) ?rest5
        case hi5 => ((iterate 5 (refine oq_next ?_)); exact oq_here)
        case hw5 => rfl
        try simp only [Act.put, List.setIfInBounds_toArray, List.set_cons_zero, List.set_cons_succ]
        refine wpAnyH_take (i := 6) (oi := ?oi6) ?hi6 (by kernel_rfl) (by kernel_rfl) (by kernel_rfl) (fun _ _ _ h => h) (Or.inr ⟨?hw6, rfl⟩) (by assumption) ?rest6
        case hi6 => ((iterate 6 (refine oq_next ?_)); exact oq_here)
        case hw6 => rfl
        try simp only [Act.put, List.setIfInBounds_toArray, List.set_cons_zero, List.set_cons_succ]
        refine wpAnyH_take (i := 7) (oi := ?oi7) ?hi7 (by kernel_rfl) (by kernel_rfl) (by kernel_rfl) (fun _ _ _ h => h) (Or.inr ⟨?hw7, rfl⟩) (by assumption) ?rest7
        case hi7 => ((iterate 7 (refine oq_next ?_)); exact oq_here)
        case hw7 => rfl
        try simp only [Act.put, List.setIfInBounds_toArray, List.set_cons_zero, List.set_cons_succ]
        refine wpAnyH_take (i := 8) (oi := ?oi8) ?hi8 (by kernel_rfl) (by kernel_rfl) (by kernel_rfl) (fun _ _ _ h => h) (Or.inr ⟨?hw8, rfl⟩) (by assumption) ?rest8
        case hi8 => ((iterate 8 (refine oq_next ?_)); exact oq_here)
        case hw8 => rfl
        try simp only [Act.put, List.setIfInBounds_toArray, List.set_cons_zero, List.set_cons_succ]
        refine wpAnyH_take (i := 9) (oi := ?oi9) ?hi9 (by kernel_rfl) (by kernel_rfl) (by kernel_rfl) (fun _ _ _ h => h) (Or.inr ⟨?hw9, rfl⟩) (by assumption) ?rest9
        case hi9 => ((iterate 9 (refine oq_next ?_)); exact oq_here)
        case hw9 => rfl
        try simp only [Act.put, List.setIfInBounds_toArray, List.set_cons_zero, List.set_cons_succ]
        refine wpAnyH_take (i := 10) (oi := ?oi10) ?hi10 (by kernel_rfl) (by kernel_rfl) (by kernel_rfl) (fun _ _ _ h => h) (Or.inr ⟨?hw10, rfl⟩) (by assumption) ?rest10
        case hi10 => ((iterate 10 (refine oq_next ?_)); exact oq_here)
        case hw10 => rfl
        try simp only [Act.put, List.setIfInBounds_toArray, List.set_cons_zero, List.set_cons_succ]
        refine wpAnyH_take (i := 11) (oi := ?oi11) ?hi11 (by kernel_rfl) (by kernel_rfl) (by kernel_rfl) (fun _ _ _ h => h) (v := ?v11) (Or.inl ⟨?hw11, ?hy11⟩) (by assumption) ?rest11
        case hi11 => ((iterate 11 (refine oq_next ?_)); exact oq_here)
        case hw11 => rfl
        case hy11 => intro w hSw; (try dsimp only at hSw); go_simp; try (with_reducible rfl)
        try simp only [Act.put, List.setIfInBounds_toArray, List.set_cons_zero, List.set_cons_succ]
        refine wpAnyH_done (by kernel_rfl) ?_ _
        refine NoPanic.normal ?_
        go_wp2_with fail
        go_roundw
        case measure => simp [intOf]; omega
        case rel => exact ⟨k + 1, by go_num, by omega, by rw [HU.out]; exact HR.out.1, by have := HR.out.2; have := HR.out.2.size; (repeat (first | exact Below.refl _ _ | (with_reducible refine Below.drew ?_) | (with_reducible refine Below.alloc ?_ (by (try simp); (try omega)) _) | (with_reducible refine Below.setCell ?_ (by (try simp); (try omega)) _) | (with_reducible refine Below.trans ?_ (Below.mono (by assumption) (by (try simp); (try omega))))))⟩
      · have hu : S.A.upto (k + 1) = S.A.upto k ++ [(k, ag)] := by rw [Ars.upto, hx]
        have hag : S.A.agA (k : Int) + 1 = (ws.length : Int) := by
          unfold Ars.agA Ars.cell
          rw [if_pos (by omega), Int.toNat_natCast, hx]
          simp
        have hsn := agBad_snoc S (portsN L) (S.A.upto k) (k, ag) HR.out.1
        rw [← hu] at hsn
        dsimp only at hsn
        rw [hag] at hsn
        have HPK := Lib.hid (hs.out.ports ag)
        obtain ⟨pn, hpn⟩ : ∃ pn, portsN L ag = pn := ⟨_, rfl⟩
        rw [hpn] at hsn
        have HPN := Lib.hid hpn
        generalize ws.length = m at hsn hm7 d3
        have HLw : Hid (∀ Y, Below wr.heap.size wr Y → AgRd Y As L) := fun Y hY => (HL.out.below HR.out.2).below hY
        clear hu hag hpn hx hg hra
        by_cases hd : pn = (m : Int)
        · subst hd
          rw [if_neg (by simp)] at hsn
          have HSN := Lib.hid hsn
          clear hsn
          go_upto_region 5 with fail
          go_region_held3 (fun Y => Y.cell? ⟨wr.heap.size, 0, none⟩ = some (.bool true) ∧ Y.cell? ⟨wr.heap.size, 1, none⟩ = some (.int .i64 ag) ∧ Y.cell? ⟨wr.heap.size, 2, none⟩ = some (.slice D m cw))
            (exact ⟨by go_simp, by go_simp, by go_simp⟩)
            (first | ((with_reducible refine (rports_any As _ cap L ag _ rfl hl (Lib.hid (HLw.out _ (by (repeat (first | exact Below.refl _ _ | (with_reducible refine Below.drew ?_) | (with_reducible refine Below.alloc ?_ (by (try simp); (try omega)) _) | (with_reducible refine Below.setCell ?_ (by (try simp); (try omega)) _) | (with_reducible refine Below.trans ?_ (Below.mono (by assumption) (by (try simp); (try omega))))))))) HPK.out.2.2).mono ?_); rintro e w6 ⟨rfl, rfl⟩; rw [HPN.out]; dsimp only))
          all_goals
            go_wp2_with fail
            go_roundw
            case measure => simp [intOf]; omega
            case rel => exact ⟨k + 1, by go_num, by omega, HSN.out, by have := HR.out.2; have := HR.out.2.size; (repeat (first | exact Below.refl _ _ | (with_reducible refine Below.drew ?_) | (with_reducible refine Below.alloc ?_ (by (try simp); (try omega)) _) | (with_reducible refine Below.setCell ?_ (by (try simp); (try omega)) _) | (with_reducible refine Below.trans ?_ (Below.mono (by assumption) (by (try simp); (try omega))))))⟩
        · rw [if_pos hd] at hsn
          have hdb : (pn != (m : Int)) = true := by simpa using hd
          have hup : S.agBad (portsN L) (S.A.upto n) = some (k, ag) := by
            have hpre : ∀ j, k + 1 ≤ j → S.agBad (portsN L) (S.A.upto j) = some (k, ag) := by
              intro j hj
              induction j with
              | zero => omega
              | succ j ih =>
                rcases Nat.lt_or_ge k j with h1 | h1
                · rw [Ars.upto]; exact agBad_pre S _ (ih h1)
                · obtain rfl : j = k := by omega
                  exact hsn
            exact hpre n (by omega)
          have HUP := Lib.hid hup
          clear hsn hup hd
          go_upto_region 5 with fail
          go_region_held3 (fun Y => Y.cell? ⟨wr.heap.size, 0, none⟩ = some (.bool true) ∧ Y.cell? ⟨wr.heap.size, 1, none⟩ = some (.int .i64 ag) ∧ Y.cell? ⟨wr.heap.size, 2, none⟩ = some (.slice D m cw))
            (exact ⟨by go_simp, by go_simp, by go_simp⟩)
            (first | ((with_reducible refine (rports_any As _ cap L ag _ rfl hl (Lib.hid (HLw.out _ (by (repeat (first | exact Below.refl _ _ | (with_reducible refine Below.drew ?_) | (with_reducible refine Below.alloc ?_ (by (try simp); (try omega)) _) | (with_reducible refine Below.setCell ?_ (by (try simp); (try omega)) _) | (with_reducible refine Below.trans ?_ (Below.mono (by assumption) (by (try simp); (try omega))))))))) HPK.out.2.2).mono ?_); rintro e w6 ⟨rfl, rfl⟩; rw [HPN.out]; dsimp only))
          all_goals
            go_wp2_with fail
            go_ret
            exact ⟨by rw [HUP.out]; rfl, by have := HR.out.2; have := HR.out.2.size; (repeat (first | exact Below.refl _ _ | (with_reducible refine Below.drew ?_) | (with_reducible refine Below.alloc ?_ (by (try simp); (try omega)) _) | (with_reducible refine Below.setCell ?_ (by (try simp); (try omega)) _) | (with_reducible refine Below.trans ?_ (Below.mono (by assumption) (by (try simp); (try omega))))))⟩
    · obtain rfl : k = n := by omega
      have hcA : ∃ VC cc, wr.cell? ⟨A, 1, none⟩ = some (.slice VC S.A.cells.length cc) := by
        obtain ⟨VC, VB, cc, cb, _, h1, _⟩ := hra.head
        exact ⟨VC, cc, h1⟩
      obtain ⟨VC, cc, d0⟩ := hcA
      rw [HNE.out] at d0
      clear hg hra
      go_wp2_with fail
      go_ret
      exact ⟨by rw [HR.out.1]; rfl, by have := HR.out.2; have := HR.out.2.size; (repeat (first | exact Below.refl _ _ | (with_reducible refine Below.drew ?_) | (with_reducible refine Below.alloc ?_ (by (try simp); (try omega)) _) | (with_reducible refine Below.setCell ?_ (by (try simp); (try omega)) _) | (with_reducible refine Below.trans ?_ (Below.mono (by assumption) (by (try simp); (try omega))))))⟩
end
end Go.Proofs.Ythbobooiedcofaa
