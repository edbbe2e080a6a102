/-
  The walk over a web's cells as an iterator: its beginning; the iterator's contract; walk.web.cells.
-/
import Derived.Test.YtkonfogebepccaaGreatDoorWalkSeq
import Derived.TacticsInMore
import Derived.LoopNIn
import Derived.LoopIn
import Derived.OwnWalkIn
import Derived.Deep.LoopGhost
/-
  The walk over a web's cells as an iterator: walk.web.cells$1.
-/
namespace Go.Proofs.YtkonfogebepccaaGreatDoor
open Go.RowKit
attribute [local go_sem] cell_set
set_option maxRecDepth 100000
set_option linter.unusedVariables false

noncomputable def wsT (n : Nat) : Code := ((Tryz.f53.body).bind (tailQ n)).getD .skip
def FrWS (ds : List Deferred) (U : Nat → Value) : Act := { tmps := (U 0 :: U 1 :: U 2 :: U 3 :: U 4 :: U 5 :: U 6 :: U 7 :: U 8 :: U 9 :: U 10 :: U 11 :: U 12 :: U 13 :: U 14 :: U 15 :: U 16 :: U 17 :: U 18 :: U 19 :: U 20 :: U 21 :: U 22 :: U 23 :: U 24 :: U 25 :: U 26 :: U 27 :: U 28 :: U 29 :: U 30 :: U 31 :: U 32 :: U 33 :: U 34 :: U 35 :: U 36 :: U 37 :: U 38 :: U 39 :: U 40 :: U 41 :: U 42 :: U 43 :: U 44 :: U 45 :: U 46 :: U 47 :: U 48 :: U 49 :: U 50 :: U 51 :: U 52 :: U 53 :: U 54 :: U 55 :: U 56 :: U 57 :: U 58 :: U 59 :: U 60 :: U 61 :: U 62 :: U 63 :: U 64 :: U 65 :: U 66 :: U 67 :: U 68 :: U 69 :: U 70 :: U 71 :: U 72 :: U 73 :: U 74 :: U 75 :: U 76 :: U 77 :: U 78 :: U 79 :: U 80 :: U 81 :: U 82 :: U 83 :: U 84 :: U 85 :: U 86 :: U 87 :: U 88 :: U 89 :: U 90 :: U 91 :: []).toArray, defers := ds }
theorem FrN.openWS {ds : List Deferred} {L : List (Nat × Value)} {a : Act} (h : FrN 92 ds L a) : ∃ U, a = FrWS ds U ∧ Us U L := h.open_
theorem field_port (x y : Int) (wx : World) : (Instr.field 28 (.agg #[.int .i64 x, .int .i64 y]) 0).run Tryz.prog wx = .ok (.int .i64 x) wx := by kernel_rfl
section
variable (Q : Exit → Act → World → Prop) (n0 l : Nat) (J : List Int → List Nat → World → Prop) (W0 : World) (D0 O : List Nat) (b2 b3 P m : Nat) (A : Option Addr) (cap : Nat) (L : List (ByteArray × Int)) (VA VB : Option Addr) (ca cb : Nat) (cells : List Int) (f : Nat) (W : List (Pt × Pt)) (g n : Nat)
set_option maxHeartbeats 4000000 in
theorem ws_9 (a : Act) (X : World) (D : List Nat) (fl wl : List Int) (k : Nat) (v : Value) (c : Nat) (hk : k < fl.length) (hkc : fl.getD k 0 = (c : Int)) (hpre : fl <+: wl)
    (hY : Hid (∀ pre x D W1, pre ++ [x] <+: wl → J pre D W1 → YieldAt Fence.wide (n0 - 1) Tryz.prog l (encI x) W1 fun e W' => e = .returned (.bool true) ∧ ∃ D', J (pre ++ [x]) D' W' ∧ Gr D W1 D' ∧ Kp D W1 W'))
    (hnext : Hid (∀ a' X' D', FrN 92 [] [(0, .func (.yield l) #[] #[]), (1, .pointer (some ⟨b3, 0, none⟩)), (2, .pointer (some ⟨b2, 0, none⟩)), (4, .slice (some ⟨g, 0, none⟩) n n), (5, v), (6, .int .i64 (c : Int))] a' → ItS J W0 D0 O b2 P m A cap L VA VB ca cb cells f W g n D' fl (k + 1) k v X' → (wsT 10).wp Tryz.prog Q a' X'))
    (hs : Hid (ItS J W0 D0 O b2 P m A cap L VA VB ca cb cells f W g n D fl k k v X))
    (ha : FrN 92 [] [(0, .func (.yield l) #[] #[]), (1, .pointer (some ⟨b3, 0, none⟩)), (2, .pointer (some ⟨b2, 0, none⟩)), (4, .slice (some ⟨g, 0, none⟩) n n), (5, v), (6, .int .i64 (c : Int))] a) : (wsT 9).wp Tryz.prog Q a X := by
  obtain ⟨U, rfl, e0, e1, e2, e4, e5, e6, -⟩ := ha.openWS
  unfold FrWS
  simp only [e0, e1, e2, e4, e5, e6]
  clear e0 e1 e2 e4 e5 e6 ha
  show (Code.seq _ _).wp _ _ _ _
  refine (wpIn_wide (n := n0)).1 ?_
  refine wpIn_seq_k (fun K hK => ?_)
  have HK := Lib.hid hK
  clear hK
  have htk : fl.take k ++ [(c : Int)] = fl.take (k + 1) := by
    rw [List.take_add_one, List.getElem?_eq_getElem hk, ← hkc, List.getD_eq_getElem?_getD, List.getElem?_eq_getElem hk]; rfl
  obtain ⟨fn, tmps, assign, body, hy, hR⟩ := hY.out (fl.take k) (c : Int) D X (by rw [htk]; exact (List.take_prefix _ _).trans hpre) hs.out.j
  have HR := Lib.hid hR
  have HTK := Lib.hid htk
  simp only [encI] at hy
  clear hR htk hkc
  gi_wp2
  refine ⟨fun h => (by cases h), HR.out.mono ?_⟩
  rintro e W3 ⟨rfl, D', hJ3, hG3, hK3⟩
  have H3 := Lib.hid (hs.out.yield (kj' := k + 1) (by rw [← HTK.out]; exact hJ3) hG3 hK3)
  clear hJ3 hG3 hK3 HR
  dsimp only
  gi_wp2
  refine HK.out _ _ (wpIn_wide.2 ?_)
  exact hnext.out _ _ D' ⟨rfl, rfl, rfl, rfl, rfl, rfl, rfl, rfl, trivial⟩ H3.out
set_option maxHeartbeats 4000000 in
theorem ws_10 (a : Act) (X : World) (D : List Nat) (fl : List Int) (k : Nat) (v : Value) (c : Nat) (hJ : Hid (Stab J)) (hs : SigOk L) (hag : Hid (∀ i, i < cells.length → 0 ≤ cells.getD i 0 ∧ cells.getD i 0 < L.length)) (hok : Hid (NetOk (pnL L) cells f W)) (hc5 : cells.length ≤ 5000)
    (hn : n = cells.length) (hcn : c < n) (hk : k < fl.length) (hf0 : Fnd n fl)
    (hgo : Hid (∀ a' X' v', FrN 92 [] [(0, .func (.yield l) #[] #[]), (1, .pointer (some ⟨b3, 0, none⟩)), (2, .pointer (some ⟨b2, 0, none⟩)), (4, .slice (some ⟨g, 0, none⟩) n n), (5, v')] a' → ItS J W0 D0 O b2 P m A cap L VA VB ca cb cells f W g n D (visit (rowP (pnL L) cells (lkM W) (c : Int)) fl) (k + 1) k v' X' → Q .normal a' X'))
    (hs0 : Hid (ItS J W0 D0 O b2 P m A cap L VA VB ca cb cells f W g n D fl (k + 1) k v X))
    (ha : FrN 92 [] [(0, .func (.yield l) #[] #[]), (1, .pointer (some ⟨b3, 0, none⟩)), (2, .pointer (some ⟨b2, 0, none⟩)), (4, .slice (some ⟨g, 0, none⟩) n n), (5, v), (6, .int .i64 (c : Int))] a) : (wsT 10).wp Tryz.prog Q a X := by
  obtain ⟨U, rfl, e0, e1, e2, e4, e5, e6, -⟩ := ha.openWS
  unfold FrWS
  simp only [e0, e1, e2, e4, e5, e6]
  clear e0 e1 e2 e4 e5 e6 ha
  show (Code.seq _ _).wp _ _ _ _
  obtain ⟨b, off, rfl, hb, q0⟩ := hs0.out.web.c c (by omega)
  obtain ⟨hx0, hx1⟩ := hag.out c (by omega)
  have hpn := pnL_in hs hx0 hx1
  have hp7 := pnL_le hs (cells.getD c 0)
  obtain ⟨M, hM⟩ : ∃ M, pnL L (cells.getD c 0) = M := ⟨_, rfl⟩
  have HM := Lib.hid hM
  rw [hM] at hpn hp7
  have har := hs.ar (cells.getD c 0).toNat (by omega)
  clear hM
  generalize hxx : cells.getD c 0 = x at q0 hx0 hx1 hpn har
  have HXX := Lib.hid hxx
  clear hxx
  obtain ⟨ag, rfl⟩ := Int.eq_ofNat_of_zero_le hx0
  have haL : ag < L.length := by omega
  obtain ⟨b9, off9, rfl, hb9, q1, q2⟩ := hs0.out.web.a ag haL
  rw [Int.toNat_natCast] at hpn har
  clear q1 hx0 hx1
  generalize agA L ag = r at q2 hpn har
  have hsum : IntKind.i64.wrap (r + 1) = (M : Int) := by rw [IntWalk.i64_in _ (by omega)]; omega
  obtain ⟨p0, p1, p2, hPl⟩ := hs0.out.web.fld
  obtain ⟨pb, hbl⟩ := hs0.out.bwc
  have HN := Lib.hid hn
  rw [← hn] at p0
  have HC := Lib.hid (And.intro hcn hk)
  have hcc : (c : Int) < (n : Int) := by omega
  have hn5 : n ≤ 5000 := by omega
  have haa : (ag : Int) < (L.length : Int) := by omega
  clear hpn har hn
  go_wp2_with fail
  go_quiet (fail)
  go_wp2_with fail
  refine absW (fun Z => ItS J W0 D0 O b2 P m (some ⟨b9, off9, none⟩) cap L (some ⟨b, off, none⟩) VB ca cb cells f W g n D fl (k + 1) k v Z) (hs0.out.draw hJ.out _) ?_
  intro Z hZ
  have H0 : Hid (∃ fl2, ItS J W0 D0 O b2 P m (some ⟨b9, off9, none⟩) cap L (some ⟨b, off, none⟩) VB ca cb cells f W g n D fl2 (k + 1) k v Z ∧ Fnd n fl2 ∧ fl <+: fl2 ∧ fl2 = visitK (rowP (pnL L) cells (lkM W) (c : Int)) fl 0) := ⟨fl, hZ, hf0, List.prefix_refl _, (visitK_0 _ _).symm⟩
  clear p0 p1 p2 hPl pb hbl hb hb9 q0 q2 hZ hsum haa hs0 hf0
  obtain ⟨i0, hi0, hi1, hi2, hi3⟩ := info_parts int_info
  have hfd := field_port
  go_loopw [5, 63] (fun v s wr => ∃ (sx : Nat) (fl2 : List Int), s = .int .i64 (sx : Int) ∧ sx ≤ M ∧ Hid (ItS J W0 D0 O b2 P m (some ⟨b9, off9, none⟩) cap L (some ⟨b, off, none⟩) VB ca cb cells f W g n D fl2 (k + 1) k v wr ∧ Fnd n fl2 ∧ fl <+: fl2 ∧ fl2 = visitK (rowP (pnL L) cells (lkM W) (c : Int)) fl sx)) (fun _ s _ => M - (intOf s).toNat)
  case atStart =>
    obtain ⟨fl2, h⟩ := H0.out
    exact ⟨0, fl2, rfl, Nat.zero_le _, h⟩
  case round =>
    obtain ⟨sx, fl2, rfl, hsx, HR⟩ := hrel
    clear H0
    have hrl : (rowP (pnL L) cells (lkM W) (c : Int)).length = M := by rw [rowP_len, Int.toNat_natCast, HM.out]
    have HRL := Lib.hid hrl
    clear hrl
    obtain ⟨A5, c5, rfl, _⟩ := HR.out.1.q.form
    obtain ⟨qn, hqn9⟩ : ∃ qn, (fl2.drop k).length = qn := ⟨_, rfl⟩
    rw [hqn9] at HR ⊢
    have HQN := Lib.hid hqn9
    clear hqn9
    by_cases hlt : sx < M
    · have hp : isPt (pnL L) cells f ((c : Int), (sx : Int)) = true := isPt_cell f (by rw [← HN.out]; exact HC.out.1) (by rw [HM.out]; exact hlt)
      have hlk := HR.out.1.web.look hok.out hp
      have hq := (lkM_eq hok.out hp).2
      have hqn := isPt_lt hq
      have hvis : visitK (rowP (pnL L) cells (lkM W) (c : Int)) fl (sx + 1) = addC fl2 (lkM W ((c : Int), (sx : Int))).1 := by
        rw [visitK_succ (by rw [HRL.out]; exact hlt), rowP_at _ (by rw [HM.out]; exact hlt), ← HR.out.2.2.2]
      have HV := Lib.hid hvis
      clear hp hq hvis
      generalize lkM W ((c : Int), (sx : Int)) = q at hlk hqn HV
      obtain ⟨q1, q2⟩ := q
      simp only [encPt] at hlk
      dsimp only at hqn
      rw [← HN.out] at hqn
      have hfl := HR.out.2.1.len
      obtain ⟨p0, p1, p2, hPl⟩ := HR.out.1.web.fld
      obtain ⟨pb, hbl⟩ := HR.out.1.bwc
      have hsx1 : (sx : Int) < (M : Int) := by omega
      by_cases hq0 : q1 < 0
      · have HV2 : Hid (visitK (rowP (pnL L) cells (lkM W) (c : Int)) fl (sx + 1) = fl2) := by show _ = _; rw [HV.out, addC_neg hq0]
        go_wp2_with fail
        go_roundw
        case measure => simp [intOf]; omega
        case rel => exact ⟨sx + 1, fl2, by go_num, by omega, Lib.hid ⟨HR.out.1, HR.out.2.1, HR.out.2.2.1, HV2.out.symm⟩⟩
      · obtain ⟨d, rfl⟩ := Int.eq_ofNat_of_zero_le (show 0 ≤ q1 by omega)
        have hdn : d < n := by omega
        obtain ⟨hgl, hsn, hsf⟩ := HR.out.1.seen hdn
        by_cases hin : (d : Int) ∈ fl2
        · have HV2 : Hid (visitK (rowP (pnL L) cells (lkM W) (c : Int)) fl (sx + 1) = fl2) := by
            show _ = _
            rw [HV.out]; unfold addC; rw [if_neg (fun h => h.2 hin)]
          rw [decide_eq_true hin] at hsn
          clear hin
          go_wp2_with fail
          go_roundw
          case measure => simp [intOf]; omega
          case rel => exact ⟨sx + 1, fl2, by go_num, by omega, Lib.hid ⟨HR.out.1, HR.out.2.1, HR.out.2.2.1, HV2.out.symm⟩⟩
        · have HV2 : Hid (visitK (rowP (pnL L) cells (lkM W) (c : Int)) fl (sx + 1) = fl2 ++ [(d : Int)] ∧ Fnd n (fl2 ++ [(d : Int)])) := by
            have e : addC fl2 (d : Int) = fl2 ++ [(d : Int)] := by unfold addC; rw [if_pos ⟨by omega, hin⟩]
            refine ⟨by rw [HV.out, e], ?_⟩
            rw [← e]; exact HR.out.2.1.add (by omega)
          rw [decide_eq_false hin] at hsn
          have hd2 : (d : Int) < (n : Int) := by omega
          have HWn : Hid (WinI ((wr.setCell ⟨g, d, none⟩ (.bool true)).alloc (.cells #[.int .i64 (d : Int)] 3)) 3 (.slice A5 qn c5) (fl2.drop k)) := by
            have h1 : WinI (wr.setCell ⟨g, d, none⟩ (.bool true)) 3 (.slice A5 qn c5) (fl2.drop k) := HR.out.1.q.keep (fun b hb => Below.heap_setCell _ _ _ b (fun (e : b = g) => HR.out.1.gq (e ▸ hb)))
            exact h1.keep (fun b hb => Below.heap_alloc _ _ _ (h1.lt b hb))
          have HHb : Hid (((wr.setCell ⟨g, d, none⟩ (.bool true)).alloc (.cells #[.int .i64 (d : Int)] 3)).heap[wr.heap.size]? = some (.cells #[.int .i64 (d : Int)] 3 (0, 0))) := by
            have h1 := heap_alloc_new (wr.setCell ⟨g, d, none⟩ (.bool true)) (.cells #[.int .i64 (d : Int)] 3)
            rw [World.size_setCell] at h1; exact h1
          have HKL : Hid (k ≤ fl2.length ∧ k + 1 ≤ fl2.length) := by
            have := HR.out.2.2.1.length_le
            have := HC.out.2
            exact ⟨by omega, by omega⟩
          have HDl : Hid ((fl2.drop k).length ≤ 1000000) := by show _ ≤ _; rw [List.length_drop]; omega
          clear hin
          go_wp2_with (at_builtin; go_loud (refine inPlain rfl (wpo_winI_push _ _ _ rfl i0 _ Tryz.underlying23 hi0 hi1 hi2 hi3 rfl rfl HWn.out _ 1 (d : Int) rfl HHb.out HDl.out ?_)); intro v5 w5 r5 k5 o5)
          obtain ⟨A6, c6, hv6, _⟩ := r5.form
          rw [List.length_append, HQN.out] at hv6
          subst hv6
          have HS5 := Lib.hid (HR.out.1.push hJ.out HKL.out.2 HKL.out.1 r5 k5 o5)
          clear r5 k5 o5
          go_wp2_with fail
          go_roundw
          case measure => simp [intOf]; omega
          case rel => exact ⟨sx + 1, fl2 ++ [(d : Int)], by go_num, by omega, Lib.hid ⟨HS5.out, HV2.out.2, HR.out.2.2.1.trans (List.prefix_append _ _), HV2.out.1.symm⟩⟩
    · obtain rfl : sx = M := by omega
      have HE : Hid (fl2 = visit (rowP (pnL L) cells (lkM W) (c : Int)) fl) := by show _ = _; rw [HR.out.2.2.2]; unfold visit; rw [HRL.out]
      have HS5 : Hid (ItS J W0 D0 O b2 P m (some ⟨b9, off9, none⟩) cap L (some ⟨b, off, none⟩) VB ca cb cells f W g n D (visit (rowP (pnL L) cells (lkM W) (c : Int)) fl) (k + 1) k (.slice A5 qn c5) wr) := by rw [← HE.out]; exact HR.out.1
      go_wp2_with fail
      exact hgo.out _ _ _ ⟨rfl, rfl, rfl, rfl, rfl, rfl, rfl, trivial⟩ HS5.out
theorem win_cut (g' off' cap' qn : Nat) (hc : qn + 1 ≤ cap') (wx : World) : (Instr.slice 23 (.slice (some ⟨g', off', none⟩) (qn + 1) cap') (some (.int .i64 1)) none none).run Tryz.prog wx = .ok (.slice (some (if cap' = 1 then (⟨g', off', none⟩ : Addr) else ⟨g', off' + 1, none⟩)) qn (cap' - 1)) wx := by
  obtain ⟨i, hi, _, hsz, _⟩ := info_parts int_info
  have hb : (Instr.sliceBounds true (qn + 1) cap' (some (.int .i64 1)) none none).run Tryz.prog wx = .ok (1, qn + 1, cap') wx := by
    simp [Instr.sliceBounds, Instr.sliceBound, asIntOf]
    intro h
    omega
  simp only [Instr.slice, Sem.run_bind, run_underlying Tryz.underlying23, Result.andThen_ok, hb]
  split <;> simp [sizeOf, typeInfo, hi, hsz, Addr.add_lit]
set_option maxHeartbeats 4000000 in
theorem ws_6 (a : Act) (X : World) (D : List Nat) (fl wl : List Int) (k : Nat) (v : Value) (hJ : Hid (Stab J)) (hs : SigOk L) (hag : Hid (∀ i, i < cells.length → 0 ≤ cells.getD i 0 ∧ cells.getD i 0 < L.length)) (hok : Hid (NetOk (pnL L) cells f W)) (hc5 : cells.length ≤ 5000)
    (hn : n = cells.length) (hk : k ≤ fl.length) (hf0 : Fnd n fl) (hwl : walkF (rowP (pnL L) cells (lkM W)) (n + 1 - k) k fl = wl)
    (hY : Hid (∀ pre x D W1, pre ++ [x] <+: wl → J pre D W1 → YieldAt Fence.wide (n0 - 1) Tryz.prog l (encI x) W1 fun e W' => e = .returned (.bool true) ∧ ∃ D', J (pre ++ [x]) D' W' ∧ Gr D W1 D' ∧ Kp D W1 W'))
    (hgo : Hid (∀ a' X' D' fl' v', k < fl.length → FrN 92 [] [(0, .func (.yield l) #[] #[]), (1, .pointer (some ⟨b3, 0, none⟩)), (2, .pointer (some ⟨b2, 0, none⟩)), (4, .slice (some ⟨g, 0, none⟩) n n), (5, v')] a' → ItS J W0 D0 O b2 P m A cap L VA VB ca cb cells f W g n D' fl' (k + 1) (k + 1) v' X' → k + 1 ≤ fl'.length → Fnd n fl' → walkF (rowP (pnL L) cells (lkM W)) (n + 1 - (k + 1)) (k + 1) fl' = wl → Q .normal a' X'))
    (hout : Hid (∀ a' X', a'.defers = [] → a'.tmps.size = 92 → J wl D X' → Kp (O ++ D0) W0 X' → Q (.exit 0) a' X'))
    (hs0 : Hid (ItS J W0 D0 O b2 P m A cap L VA VB ca cb cells f W g n D fl k k v X))
    (ha : FrN 92 [] [(0, .func (.yield l) #[] #[]), (1, .pointer (some ⟨b3, 0, none⟩)), (2, .pointer (some ⟨b2, 0, none⟩)), (4, .slice (some ⟨g, 0, none⟩) n n), (5, v)] a) : (wsT 6).wp Tryz.prog Q a X := by
  obtain ⟨U, rfl, e0, e1, e2, e4, e5, -⟩ := ha.openWS
  unfold FrWS
  simp only [e0, e1, e2, e4, e5]
  clear e0 e1 e2 e4 e5 ha
  show (Code.seq _ _).wp _ _ _ _
  have HF := Lib.hid (And.intro hf0 hwl)
  have HN := Lib.hid hn
  have hfl := hf0.len
  have hn5 : n ≤ 5000 := by omega
  clear hf0 hwl hn
  by_cases hlt : k < fl.length
  · obtain ⟨x, hx⟩ : ∃ x, fl.getD k 0 = x := ⟨_, rfl⟩
    have hdr : fl.drop k = x :: fl.drop (k + 1) := by
      rw [List.drop_eq_getElem_cons hlt, ← hx, List.getD_eq_getElem?_getD, List.getElem?_eq_getElem hlt]; rfl
    have hx0 := HF.out.1.lt x (by rw [← hx, List.getD_eq_getElem?_getD, List.getElem?_eq_getElem hlt]; exact List.getElem_mem hlt)
    obtain ⟨c, rfl⟩ := Int.eq_ofNat_of_zero_le hx0.1
    have hcn : c < n := by omega
    have HX := Lib.hid hx
    have hq := hs0.out.q
    rw [hdr] at hq
    obtain ⟨g', off', cap', rfl, hcap, hgl, hcell, hwin⟩ := hq.head
    obtain ⟨qn, hqn⟩ : ∃ qn, (fl.drop (k + 1)).length = qn := ⟨_, rfl⟩
    rw [hqn] at hcap hwin hs0 ⊢
    have HW := Lib.hid hwin
    have HQN := Lib.hid hqn
    have HG : Hid (k < fl.length) := hlt
    clear hx hdr hx0 hwin hq hqn
    iterate 80 (first | (with_reducible refine at_seq3 9 ?_) | (with_reducible refine at_seq2 9 ?_) | (with_reducible refine at_seq 9 ?_) | go_values | go_skip | go_guarded | go_step | go_upon | go_back | go_simp)
    refine ws_9 _ n0 l J W0 D0 O b2 b3 P m A cap L VA VB ca cb cells f W g n _ X D fl wl k _ c hlt HX.out (by rw [← HF.out.2]; exact walkF_pre _ _ _ _) hY (Lib.hid fun a9 X9 D9 hf9 hs9 => ?_) hs0 ⟨rfl, rfl, rfl, rfl, rfl, rfl, rfl, rfl, trivial⟩
    refine ws_10 _ l J W0 D0 O b2 b3 P m A cap L VA VB ca cb cells f W g n a9 X9 D9 fl k _ c hJ hs hag hok hc5 HN.out hcn hlt HF.out.1 (Lib.hid fun a10 X10 v10 hf10 hs10 => ?_) (Lib.hid hs9) hf9
    obtain ⟨U2, rfl, e0, e1, e2, e4, e5, -⟩ := hf10.openWS
    have HS10 := Lib.hid hs10
    unfold FrWS
    simp only [e0, e1, e2, e4, e5]
    clear e0 e1 e2 e4 e5 hf10 hs10 hf9 hs9 hcell hgl
    obtain ⟨fl', hfl'⟩ : ∃ l, visit (rowP (pnL L) cells (lkM W) (c : Int)) fl = l := ⟨_, rfl⟩
    rw [hfl'] at HS10
    have hpre : fl <+: fl' := by rw [← hfl']; exact visitK_pre _ _ _
    have hlt' : k < fl'.length := Nat.lt_of_lt_of_le HG.out hpre.length_le
    have hgd : fl'.getD k 0 = (c : Int) := by
      obtain ⟨r, rfl⟩ := hpre
      rw [List.getD_eq_getElem?_getD, List.getElem?_append_left HG.out, ← List.getD_eq_getElem?_getD]; exact HX.out
    have hdr : fl'.drop k = (c : Int) :: fl'.drop (k + 1) := by
      rw [List.drop_eq_getElem_cons hlt', ← hgd, List.getD_eq_getElem?_getD, List.getElem?_eq_getElem hlt']; rfl
    have hq := HS10.out.q
    rw [hdr] at hq
    obtain ⟨g2, off2, cap2, rfl, hcap2, hgl2, hcell2, hwin2⟩ := hq.head
    obtain ⟨q2, hq2⟩ : ∃ q2, (fl'.drop (k + 1)).length = q2 := ⟨_, rfl⟩
    rw [hq2] at hcap2 hwin2 HS10 ⊢
    have hcut := win_cut g2 off2 cap2 q2 hcap2
    obtain ⟨ad, had⟩ : ∃ ad, (if cap2 = 1 then (⟨g2, off2, none⟩ : Addr) else ⟨g2, off2 + 1, none⟩) = ad := ⟨_, rfl⟩
    rw [had] at hcut hwin2
    have HFin : Hid (ItS J W0 D0 O b2 P m A cap L VA VB ca cb cells f W g n D9 fl' (k + 1) (k + 1) (.slice (some ad) q2 (cap2 - 1)) X10) := HS10.out.cut hwin2 (by rw [← had]; split <;> rfl)
    have HF2 : Hid (Fnd n fl' ∧ walkF (rowP (pnL L) cells (lkM W)) (n + 1 - (k + 1)) (k + 1) fl' = wl) := by
      refine ⟨by rw [← hfl']; exact HF.out.1.visitK (fun p hp => by
        obtain ⟨y, rfl⟩ := rowP_mem hp
        rw [HN.out]; exact lkM_lt hok.out y) _, ?_⟩
      have h1 := HF.out.2
      rw [show n + 1 - k = (n + 1 - (k + 1)) + 1 by have := HG.out; omega, walkF_step HG.out, HX.out, hfl'] at h1
      exact h1
    have HL2 : Hid (k + 1 ≤ fl'.length) := hlt'
    clear hfl' hpre hlt' hgd hdr hq hgl2 hcell2 hwin2 had hq2
    repeat (first
      | exact hgo.out _ _ D9 fl' _ HG.out ⟨rfl, rfl, rfl, rfl, rfl, rfl, rfl, trivial⟩ HFin.out HL2.out HF2.out.1 HF2.out.2
      | go_values | go_skip | go_guarded | go_step | go_upon | go_back)
  · obtain rfl : k = fl.length := by omega
    have hq0 : (fl.drop fl.length).length = 0 := by simp
    obtain ⟨A5, c5, rfl, _⟩ := hs0.out.q.form
    have HJ9 : Hid (J wl D X ∧ Kp (O ++ D0) W0 X) := by
      refine ⟨?_, hs0.out.kp⟩
      have := hs0.out.j
      rw [List.take_length] at this
      rw [← HF.out.2, walkF_done (Nat.le_refl _)]; exact this
    rw [hq0] at hs0 ⊢
    clear hlt
    go_wp2_with fail
    exact hout.out _ _ rfl rfl HJ9.out.1 HJ9.out.2
end
end Go.Proofs.YtkonfogebepccaaGreatDoor
namespace Go.Proofs.YtkonfogebepccaaGreatDoor
open Go.RowKit
attribute [local go_sem] cell_set
set_option maxRecDepth 100000
set_option linter.unusedVariables false

section
variable (Q : Exit → Act → World → Prop) (n0 l : Nat) (J : List Int → List Nat → World → Prop) (W0 : World) (D0 : List Nat) (b2 b3 P m : Nat) (A : Option Addr) (cap : Nat) (L : List (ByteArray × Int)) (VA VB : Option Addr) (ca cb : Nat) (cells : List Int) (f : Nat) (W : List (Pt × Pt))
theorem its_start {X : World} {n c : Nat} (hJ : Stab J) (h0 : J [] D0 X) (hw : WebS X P m A cap L VA VB ca cb cells f W) (hb : X.heap[b2]? = some (.cells #[.pointer (some ⟨P, 0, none⟩)] 76 (0, 0))) (hk : Kp [b3] W0 X) (hl : ∀ b ∈ b2 :: webQ P m A VA L cells, b < W0.heap.size ∧ b ∉ D0) (hn : n ≤ 5000) (hc : c < n) :
    ItS J W0 D0 [b3] b2 P m A cap L VA VB ca cb cells f W X.heap.size n D0 [(c : Int)] 0 0 (.slice (some ⟨X.heap.size + 1, 0, none⟩) 1 1) (((X.alloc (.cells (madeCells #[.bool false] n) 4)).setCell ⟨X.heap.size, c, none⟩ (.bool true)).alloc (.cells #[.int .i64 (c : Int)] 3)) := by
  have hz := hk.size
  have b1 : Below X.heap.size X (((X.alloc (.cells (madeCells #[.bool false] n) 4)).setCell ⟨X.heap.size, c, none⟩ (.bool true)).alloc (.cells #[.int .i64 (c : Int)] 3)) := by (repeat (first | exact Below.refl _ _ | (with_reducible refine Below.drew ?_) | (with_reducible refine Below.alloc ?_ (by (try simp); (try omega)) _) | (with_reducible refine Below.setCell ?_ (by (try simp); (try omega)) _) | (with_reducible refine Below.trans ?_ (Below.mono (by assumption) (by (try simp); (try omega))))))
  have hD := hJ.lt _ _ _ h0
  have hr : Row (X.alloc (.cells (madeCells #[.bool false] n) 4)) 4 1 (.slice (some ⟨X.heap.size, 0, none⟩) n n) n (seenB n []) :=
    ⟨by simp [seenB], .inr ⟨X.heap.size, n, _, rfl, heap_alloc_new X _, Nat.le_refl _, by unfold maxLen; omega, by simp [size_madeCells], by rw [toList_madeCells_one, seenB_nil]; simp⟩⟩
  refine ⟨hJ.keep _ _ _ _ h0 (fun b hb => b1.block b (hD b hb)) b1.size, hw.below b1, (b1.block _ (heap_lt hb)).trans hb, ?_, ?_, ⟨hz, fun h => by have := hD _ h; omega⟩, fun b hb => ?_, hl, Gr.refl _ _, (hk.mono (by simp)).thenBelow b1⟩
  · have h1 := (hr.set c (.bool true)).alloc (.cells #[.int .i64 (c : Int)] 3)
    rw [← seenB_snoc] at h1
    simpa using h1
  · refine WinI.one ?_
    have h1 := heap_alloc_new ((X.alloc (.cells (madeCells #[.bool false] n) 4)).setCell ⟨X.heap.size, c, none⟩ (.bool true)) (.cells #[.int .i64 (c : Int)] 3)
    rw [World.size_setCell, World.size_alloc] at h1
    exact h1
  · simp [ownB] at hb; subst hb
    exact ⟨by omega, fun h => by have := hD _ h; omega⟩
set_option maxHeartbeats 4000000 in
theorem ws_2 (a : Act) (X : World) (s : Pt) (n : Nat) (wl : List Int) (hJ : Hid (Stab J)) (hs : SigOk L) (hag : Hid (∀ i, i < cells.length → 0 ≤ cells.getD i 0 ∧ cells.getD i 0 < L.length)) (hok : Hid (NetOk (pnL L) cells f W)) (hc5 : cells.length ≤ 5000)
    (hn : n = cells.length) (hsn : s.1 < n) (hwl : walkL n (rowP (pnL L) cells (lkM W)) s.1 = wl)
    (hY : Hid (∀ pre x D W1, pre ++ [x] <+: wl → J pre D W1 → YieldAt Fence.wide (n0 - 1) Tryz.prog l (encI x) W1 fun e W' => e = .returned (.bool true) ∧ ∃ D', J (pre ++ [x]) D' W' ∧ Gr D W1 D' ∧ Kp D W1 W'))
    (h0 : Hid (J [] D0 X ∧ WebS X P m A cap L VA VB ca cb cells f W ∧ X.heap[b2]? = some (.cells #[.pointer (some ⟨P, 0, none⟩)] 76 (0, 0)) ∧ Kp [b3] W0 X ∧ ∀ b ∈ b2 :: webQ P m A VA L cells, b < W0.heap.size ∧ b ∉ D0)) (hp : Hid (PtBx X b3 s))
    (hret : Hid (∀ a' X' D', a'.defers = [] → a'.tmps.size = 92 → J wl D' X' → Gr D0 W0 D' → Kp ([b3] ++ D0) W0 X' → Q .ret a' X'))
    (hend : Hid (∀ a' X' D', a'.defers = [] → a'.tmps.size = 92 → J wl D' X' → Gr D0 W0 D' → Kp ([b3] ++ D0) W0 X' → Q .normal a' X'))
    (ha : FrN 92 [] [(0, .func (.yield l) #[] #[]), (1, .pointer (some ⟨b3, 0, none⟩)), (2, .pointer (some ⟨b2, 0, none⟩))] a) : (wsT 2).wp Tryz.prog Q a X := by
  obtain ⟨U, rfl, e0, e1, e2, -⟩ := ha.openWS
  unfold FrWS
  simp only [e0, e1, e2]
  clear e0 e1 e2 ha
  show (Code.seq _ _).wp _ _ _ _
  obtain ⟨x0, x1, hxl⟩ := hp.out.cells
  obtain ⟨s1, s2⟩ := s
  dsimp only at x0 x1 hsn hwl
  by_cases h1 : s1 < 0
  · have hw0 : Hid (wl = []) := by
      show _ = _
      rw [← hwl]; unfold walkL; rw [addC_neg h1]; exact walkF_done (by simp)
    go_wp2_with fail
    refine hret.out _ _ D0 rfl rfl (by rw [hw0.out]; exact h0.out.1) (Gr.refl _ _) (h0.out.2.2.2.1.mono (by simp))
  · obtain ⟨c, rfl⟩ := Int.eq_ofNat_of_zero_le (show 0 ≤ s1 by omega)
    have hcn : c < n := by omega
    have hn5 : n ≤ 5000 := by omega
    have HW0 : Hid (walkF (rowP (pnL L) cells (lkM W)) (n + 1) 0 [(c : Int)] = wl) := by
      show _ = _
      rw [← hwl]; unfold walkL
      have e : addC [] (c : Int) = [(c : Int)] := by unfold addC; rw [if_pos ⟨by omega, by simp⟩]; rfl
      rw [e]
    have HF0 : Hid (Fnd n [(c : Int)]) := ⟨by simp, by intro x hx; simp at hx; subst hx; omega⟩
    obtain ⟨p0, p1, p2, hPl⟩ := h0.out.2.1.fld
    have hb2 := h0.out.2.2.1
    have pb : X.cell? ⟨b2, 0, none⟩ = some (.pointer (some ⟨P, 0, none⟩)) := by simp [World.cell?, hb2]
    have hbl := heap_lt hb2
    rw [← hn] at p0
    have hcc : (c : Int) < (n : Int) := by omega
    have HN := Lib.hid hn
    obtain ⟨i0, hi0, hi1, hi2, hi3⟩ := info_parts bool_info
    have HS := Lib.hid (its_start J W0 D0 b2 b3 P m A cap L VA VB ca cb cells f W hJ.out h0.out.1 h0.out.2.1 h0.out.2.2.1 h0.out.2.2.2.1 h0.out.2.2.2.2 hn5 hcn)
    have HS2 : Hid (ItS J W0 D0 [b3] b2 P m A cap L VA VB ca cb cells f W X.heap.size n D0 [(c : Int)] 0 0 (.slice (some ⟨X.heap.size + 1, 0, none⟩) 1 1) ((X.alloc (.cells ((madeCells #[.bool false] n).setIfInBounds c (.bool true)) 4)).alloc (.cells #[.int .i64 (c : Int)] 3))) := by
      have := HS.out
      rw [World.setCell_alloc_new] at this
      exact this
    have hm0 : (X.alloc (.cells (madeCells #[.bool false] n) 4)).cell? ⟨X.heap.size, c, none⟩ = some (.bool false) := by
      have hr : Row (X.alloc (.cells (madeCells #[.bool false] n) 4)) 4 1 (.slice (some ⟨X.heap.size, 0, none⟩) n n) n (seenB n []) :=
        ⟨by simp [seenB], .inr ⟨X.heap.size, n, _, rfl, heap_alloc_new X _, Nat.le_refl _, by unfold maxLen; omega, by simp [size_madeCells], by rw [toList_madeCells_one, seenB_nil]; simp⟩⟩
      exact (hr.cellAt c (by omega)).trans (seenB_at [] hcn)
    clear hn hwl hb2 h1
    go_upto_region 4 with (at_make; refine wpList_make_row _ rfl _ _ _ rfl _ i0 _ (by rfl) hi0 hi1 hi2 (by rfl) .i64 .i64 n (by rfl) (by rfl) (by rw [hi3]; omega) (by omega) ?_)
    go_upto_region 5 with fail
    go_upto_region 6 with fail
    refine wp_loop_ghost (fun m' a' X' => ∃ k D fl v, m' = n - k ∧ k ≤ fl.length ∧ Fnd n fl ∧ walkF (rowP (pnL L) cells (lkM W)) (n + 1 - k) k fl = wl ∧ FrN 92 [] [(0, .func (.yield l) #[] #[]), (1, .pointer (some ⟨b3, 0, none⟩)), (2, .pointer (some ⟨b2, 0, none⟩)), (4, .slice (some ⟨X.heap.size, 0, none⟩) n n), (5, v)] a' ∧ ItS J W0 D0 [b3] b2 P m A cap L VA VB ca cb cells f W X.heap.size n D fl k k v X') n ⟨0, D0, [(c : Int)], .slice (some ⟨X.heap.size + 1, 0, none⟩) 1 1, by omega, by simp, HF0.out, HW0.out, ⟨rfl, rfl, rfl, rfl, rfl, rfl, rfl, trivial⟩, HS2.out⟩ ?_
    rintro m' a2 X2 ⟨k, D, fl, v, rfl, hk, hf, hw, hfr, hit⟩
    refine ws_6 _ n0 l J W0 D0 [b3] b2 b3 P m A cap L VA VB ca cb cells f W X.heap.size n a2 X2 D fl wl k v hJ hs hag hok hc5 HN.out hk hf hw hY (Lib.hid fun a3 X3 D3 fl3 v3 hlt hfr3 hit3 hk3 hf3 hw3 => ?_) (Lib.hid fun a3 X3 hdf hsz hj hkp => ?_) (Lib.hid hit) hfr
    · have := hf.len
      exact ⟨n - (k + 1), by omega, k + 1, D3, fl3, v3, rfl, hk3, hf3, hw3, hfr3, hit3⟩
    · exact hend.out a3 X3 D hdf hsz hj hit.gr hkp
end
set_option maxHeartbeats 4000000 in
/-- The iterator. -/
theorem cells1_calls (n0 l : Nat) (J : List Int → List Nat → World → Prop) (W0 : World) (D0 : List Nat) (b2 b3 P m : Nat) (A : Option Addr) (cap : Nat) (L : List (ByteArray × Int)) (VA VB : Option Addr) (ca cb : Nat) (cells : List Int) (f : Nat) (W : List (Pt × Pt)) (p : Pt)
    (hJ : Stab J) (hs : SigOk L) (hag : ∀ i, i < cells.length → 0 ≤ cells.getD i 0 ∧ cells.getD i 0 < L.length) (hok : NetOk (pnL L) cells f W) (hc5 : cells.length ≤ 5000) (hp : isPt (pnL L) cells f p = true)
    (hY : ∀ pre x D W1, pre ++ [x] <+: wlk (pnL L) cells (lkM W) p → J pre D W1 → YieldAt Fence.wide (n0 - 1) Tryz.prog l (encI x) W1 fun e W' => e = .returned (.bool true) ∧ ∃ D', J (pre ++ [x]) D' W' ∧ Gr D W1 D' ∧ Kp D W1 W')
    (h0 : J [] D0 W0) (hD : ∀ b ∈ D0, b ∉ b2 :: webQ P m A VA L cells ∧ b ≠ b3) (h3 : b3 ∉ b2 :: webQ P m A VA L cells) (hpb : PtBx W0 b3 p) (hb2 : W0.heap[b2]? = some (.cells #[.pointer (some ⟨P, 0, none⟩)] 76 (0, 0))) (hw : WebS W0 P m A cap L VA VB ca cb cells f W) :
    Calls Tryz.prog 53 #[.func (.yield l) #[] #[], .pointer (some ⟨b3, 0, none⟩), .pointer (some ⟨b2, 0, none⟩)] W0 fun e W' => (∃ v, e = .returned v) ∧ ∃ D', J (wlk (pnL L) cells (lkM W) p) D' W' ∧ Gr D0 W0 D' ∧ Kp ([b3] ++ D0) W0 W' := by
  obtain ⟨wl, hwl⟩ : ∃ wl, wlk (pnL L) cells (lkM W) p = wl := ⟨_, rfl⟩
  rw [hwl] at hY ⊢
  have HWL : Hid (walkL cells.length (rowP (pnL L) cells (lkM W)) (startP (lkM W) p).1 = wl) := hwl
  have hql : ∀ b ∈ b2 :: webQ P m A VA L cells, b < W0.heap.size ∧ b ∉ D0 := fun b hb => by
    refine ⟨?_, fun hd => (hD b hd).1 hb⟩
    rcases List.mem_cons.1 hb with rfl | hb
    · exact heap_lt hb2
    · exact hw.lt b hb
  have hst := isPt_lt (startP_is hok hp)
  have hq := lkM_eq hok hp
  have hlook := fun Z (hz : WebS Z P m A cap L VA VB ca cb cells f W) => hz.look hok hp
  have HSP : Hid (startP (lkM W) p = if p.1 < 0 then lkM W p else p) := rfl
  have H := Lib.hid (And.intro h0 (And.intro hw (And.intro hb2 (And.intro hql hst))))
  have HP := Lib.hid hpb
  have HY := Lib.hid hY
  obtain ⟨x0, x1, hxl⟩ := hpb.cells
  have hret : Hid (∀ a' X' D', a'.defers = [] → a'.tmps.size = 92 → J wl D' X' → Gr D0 W0 D' → Kp ([b3] ++ D0) W0 X' → bodyPost Tryz.prog Tryz.f53 (fun e W' => (∃ v, e = .returned v) ∧ ∃ D', J wl D' W' ∧ Gr D0 W0 D' ∧ Kp ([b3] ++ D0) W0 W') .ret a' X') := fun a' X' D' hdf _ h1 h2 h3 => bodyPost_ret (results_none rfl _ _ _) hdf ⟨⟨_, rfl⟩, D', h1, h2, h3⟩
  have hend : Hid (∀ a' X' D', a'.defers = [] → a'.tmps.size = 92 → J wl D' X' → Gr D0 W0 D' → Kp ([b3] ++ D0) W0 X' → bodyPost Tryz.prog Tryz.f53 (fun e W' => (∃ v, e = .returned v) ∧ ∃ D', J wl D' W' ∧ Gr D0 W0 D' ∧ Kp ([b3] ++ D0) W0 W') .normal a' X') := fun a' X' D' hdf _ h1 h2 h3 => bodyPost_end (results_none rfl _ _ _) hdf ⟨⟨_, rfl⟩, D', h1, h2, h3⟩
  have HD3 : Hid (b3 ∉ D0 ∧ b3 ∉ b2 :: webQ P m A VA L cells) := ⟨fun h => (hD b3 h).2 rfl, h3⟩
  obtain ⟨q, hqe⟩ : ∃ q, lkM W p = q := ⟨_, rfl⟩
  rw [hqe] at hlook HSP
  obtain ⟨p1, p2⟩ := p
  obtain ⟨q1, q2⟩ := q
  dsimp only at x0 x1 HSP
  obtain ⟨w0, w1, w2, hPl⟩ := hw.fld
  have hbl := heap_lt hb2
  have pb : W0.cell? ⟨b2, 0, none⟩ = some (.pointer (some ⟨P, 0, none⟩)) := by simp [World.cell?, hb2]
  have z0 : W0.frozen? ⟨b3, 0, none⟩ = false := by have h : W0.heap[b3]? = _ := HP.out; simp [World.frozen?, h]
  have z1 : W0.frozen? ⟨b3, 1, none⟩ = false := by have h : W0.heap[b3]? = _ := HP.out; simp [World.frozen?, h]
  have HLK := Lib.hid (hlook W0.drew (hw.keep (fun _ _ => rfl) (Nat.le_refl _)))
  have hag' := Lib.hid hag
  have hok' := Lib.hid hok
  have hJ' := Lib.hid hJ
  clear hJ hag hok hY h0 hD hpb hb2 hw hql hq hlook hp hwl h3 hqe hst
  go_enter Tryz.func53, Tryz.ntmps53
  by_cases hneg : p1 < 0
  · have HE : Hid (startP (lkM W) (p1, p2) = (q1, q2)) := by show _ = _; rw [HSP.out, if_pos hneg]
    go_upto_region 1 with fail
    have hlk := HLK.out
    simp only [encPt] at hlk
    (refine region_tail 6 (by kernel_rfl) (by kernel_rfl) ?_; simp only [List.take_succ_cons, List.take_zero, List.drop_succ_cons, List.drop_zero]; repeat still_step; try refine wpStill_nil ?_)
    iterate 80 (first | (with_reducible refine at_seq3 2 ?_) | (with_reducible refine at_seq2 2 ?_) | (with_reducible refine at_seq 2 ?_) | go_values | go_skip | go_guarded | go_step | go_upon | go_back | go_simp)
    refine ws_2 _ n0 l J W0 D0 b2 b3 P m A cap L VA VB ca cb cells f W _ _ (q1, q2) cells.length wl hJ' hs hag' hok' hc5 rfl (by have := H.out.2.2.2.2; rw [HE.out] at this; exact this) (by have := HWL.out; rw [HE.out] at this; exact this) HY (Lib.hid ⟨?_, ?_, ?_, ?_, H.out.2.2.2.1⟩) (Lib.hid ?_) hret hend ⟨rfl, rfl, rfl, rfl, rfl, trivial⟩
    · refine hJ'.out.keep _ _ _ _ H.out.1 (fun b hb => ?_) (by simp [World.drew])
      have hne : b ≠ b3 := fun e => HD3.out.1 (e ▸ hb)
      exact (Below.heap_setCell _ _ _ b hne).trans (Below.heap_setCell _ _ _ b hne)
    · refine H.out.2.1.keep (fun b hb => ?_) (by simp [World.drew])
      have hne : b ≠ b3 := fun e => HD3.out.2 (by rw [← e]; simp [hb])
      exact (Below.heap_setCell _ _ _ b hne).trans (Below.heap_setCell _ _ _ b hne)
    · have hne : b2 ≠ b3 := fun e => HD3.out.2 (by rw [← e]; simp)
      exact ((Below.heap_setCell _ _ _ b2 hne).trans (Below.heap_setCell _ _ _ b2 hne)).trans H.out.2.2.1
    · exact ((Kp.refl [b3] W0).drew.setCell (.inl (by simp)) _).setCell (.inl (by simp)) _
    · have h : W0.heap[b3]? = _ := HP.out
      change ((W0.setCell ⟨b3, 0, none⟩ (.int .i64 q1)).setCell ⟨b3, 1, none⟩ (.int .i64 q2)).heap[b3]? = _
      simp [World.setCell, Array.getElem?_modify, h]
  · have HE : Hid (startP (lkM W) (p1, p2) = (p1, p2)) := by show _ = _; rw [HSP.out, if_neg hneg]
    iterate 80 (first | (with_reducible refine at_seq3 2 ?_) | (with_reducible refine at_seq2 2 ?_) | (with_reducible refine at_seq 2 ?_) | go_values | go_skip | go_guarded | go_step | go_upon | go_back | go_simp)
    refine ws_2 _ n0 l J W0 D0 b2 b3 P m A cap L VA VB ca cb cells f W _ W0 (p1, p2) cells.length wl hJ' hs hag' hok' hc5 rfl (by have := H.out.2.2.2.2; rw [HE.out] at this; exact this) (by have := HWL.out; rw [HE.out] at this; exact this) HY (Lib.hid ⟨H.out.1, H.out.2.1, H.out.2.2.1, Kp.refl _ _, H.out.2.2.2.1⟩) HP hret hend ⟨rfl, rfl, rfl, rfl, rfl, trivial⟩
/-- The iterator's contract. -/
theorem cells_seq (n0 : Nat) (b2 b3 P m : Nat) (A : Option Addr) (cap : Nat) (L : List (ByteArray × Int)) (VA VB : Option Addr) (ca cb : Nat) (cells : List Int) (f : Nat) (W : List (Pt × Pt)) (p : Pt) (w : World)
    (hs : SigOk L) (hag : ∀ i, i < cells.length → 0 ≤ cells.getD i 0 ∧ cells.getD i 0 < L.length) (hok : NetOk (pnL L) cells f W) (hc5 : cells.length ≤ 5000) (hp : isPt (pnL L) cells f p = true)
    (h3 : b3 ∉ b2 :: webQ P m A VA L cells) (hpb : PtBx w b3 p) (hb2 : w.heap[b2]? = some (.cells #[.pointer (some ⟨P, 0, none⟩)] 76 (0, 0))) (hw : WebS w P m A cap L VA VB ca cb cells f W) :
    SeqD n0 Tryz.prog 53 #[.pointer (some ⟨b3, 0, none⟩), .pointer (some ⟨b2, 0, none⟩)] encI (b2 :: webQ P m A VA L cells) [b3] (wlk (pnL L) cells (lkM W) p) w :=
  fun l J D W0 hb hJ hY h0 hD => callsIn_wide.2 (cells1_calls n0 l J W0 D b2 b3 P m A cap L VA VB ca cb cells f W p hJ hs hag hok hc5 hp hY h0 (fun b hb => ⟨(hD b hb).1, by simpa using (hD b hb).2⟩) h3 ((hb.block _ (heap_lt hpb)).trans hpb) ((hb.block _ (heap_lt hb2)).trans hb2) (hw.below hb))
/-- walk.web.cells. -/
theorem web_cells (P : Nat) (p1 p2 : Int) (w : World) :
    Calls Tryz.prog 28 #[.pointer (some ⟨P, 0, none⟩), .agg #[.int .i64 p1, .int .i64 p2]] w fun e w' => e = .returned (.func (.func 53) #[] #[.pointer (some ⟨w.heap.size + 1, 0, none⟩), .pointer (some ⟨w.heap.size, 0, none⟩)]) ∧
      PtBx w' (w.heap.size + 1) (p1, p2) ∧ w'.heap[w.heap.size]? = some (.cells #[.pointer (some ⟨P, 0, none⟩)] 76 (0, 0)) ∧ Below w.heap.size w w' := by
  go_enter Tryz.func28, Tryz.ntmps28
  go_wp2
  go_ret
  refine ⟨rfl, ?_, (Below.heap_alloc _ _ _ (by simp)).trans (heap_alloc_new w _), by (repeat (first | exact Below.refl _ _ | (with_reducible refine Below.drew ?_) | (with_reducible refine Below.alloc ?_ (by (try simp); (try omega)) _) | (with_reducible refine Below.setCell ?_ (by (try simp); (try omega)) _) | (with_reducible refine Below.trans ?_ (Below.mono (by assumption) (by (try simp); (try omega))))))⟩
  have := heap_alloc_new (w.alloc (.cells #[.pointer (some ⟨P, 0, none⟩)] 76)) (.cells #[.int .i64 p1, .int .i64 p2] 28)
  rw [World.size_alloc] at this
  exact this
end Go.Proofs.YtkonfogebepccaaGreatDoor
