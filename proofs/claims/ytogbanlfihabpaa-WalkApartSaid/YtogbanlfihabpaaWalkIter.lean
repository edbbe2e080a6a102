/-
  The walk over a web's cells as an iterator: walk.web.cells$1.
-/
import Derived.Test.YtogbanlfihabpaaWalkSeq
import Derived.TacticsInMore
import Derived.LoopNIn
import Derived.LoopIn
import Derived.OwnWalkIn
namespace Go.Proofs.Ytogbanlfihabpaa
open Go.RowKit
attribute [local go_sem] cell_set
set_option maxRecDepth 100000
set_option linter.unusedVariables false

noncomputable def wsT (n : Nat) : Code := ((Try.f31.body).bind (tailQ n)).getD .skip
def FrWS (ds : List Deferred) (U : Nat → Value) : Act := { tmps := (U 0 :: U 1 :: U 2 :: U 3 :: U 4 :: U 5 :: U 6 :: U 7 :: U 8 :: U 9 :: U 10 :: U 11 :: U 12 :: U 13 :: U 14 :: U 15 :: U 16 :: U 17 :: U 18 :: U 19 :: U 20 :: U 21 :: U 22 :: U 23 :: U 24 :: U 25 :: U 26 :: U 27 :: U 28 :: U 29 :: U 30 :: U 31 :: U 32 :: U 33 :: U 34 :: U 35 :: U 36 :: U 37 :: U 38 :: U 39 :: U 40 :: U 41 :: U 42 :: U 43 :: U 44 :: U 45 :: U 46 :: U 47 :: U 48 :: U 49 :: U 50 :: U 51 :: U 52 :: U 53 :: U 54 :: U 55 :: U 56 :: U 57 :: U 58 :: U 59 :: U 60 :: U 61 :: U 62 :: U 63 :: U 64 :: U 65 :: U 66 :: U 67 :: U 68 :: U 69 :: U 70 :: U 71 :: U 72 :: U 73 :: U 74 :: U 75 :: U 76 :: U 77 :: U 78 :: U 79 :: U 80 :: U 81 :: U 82 :: U 83 :: U 84 :: U 85 :: U 86 :: U 87 :: U 88 :: U 89 :: U 90 :: U 91 :: []).toArray, defers := ds }
theorem FrN.openWS {ds : List Deferred} {L : List (Nat × Value)} {a : Act} (h : FrN 92 ds L a) : ∃ U, a = FrWS ds U ∧ Us U L := h.open_
theorem field_port (x y : Int) (wx : World) : (Instr.field 41 (.agg #[.int .i64 x, .int .i64 y]) 0).run Try.prog wx = .ok (.int .i64 x) wx := by kernel_rfl
section
variable (Q : Exit → Act → World → Prop) (n0 l : Nat) (J : List Int → List Nat → World → Prop) (W0 : World) (D0 O : List Nat) (b2 b3 P m : Nat) (A : Option Addr) (cap : Nat) (L : List (ByteArray × Int)) (VA VB : Option Addr) (ca cb : Nat) (cells : List Int) (f : Nat) (W : List (Pt × Pt)) (g n : Nat)
set_option maxHeartbeats 4000000 in
theorem ws_9 (a : Act) (X : World) (D : List Nat) (fl wl : List Int) (k : Nat) (v : Value) (c : Nat) (hk : k < fl.length) (hkc : fl.getD k 0 = (c : Int)) (hpre : fl <+: wl)
    (hY : Hid (∀ pre x D W1, pre ++ [x] <+: wl → J pre D W1 → YieldAt Fence.wide (n0 - 1) Try.prog l (encI x) W1 fun e W' => e = .returned (.bool true) ∧ ∃ D', J (pre ++ [x]) D' W' ∧ Gr D W1 D' ∧ Kp D W1 W'))
    (hnext : Hid (∀ a' X' D', FrN 92 [] [(0, .func (.yield l) #[] #[]), (1, .pointer (some ⟨b3, 0, none⟩)), (2, .pointer (some ⟨b2, 0, none⟩)), (4, .slice (some ⟨g, 0, none⟩) n n), (5, v), (6, .int .i64 (c : Int))] a' → ItS J W0 D0 O b2 P m A cap L VA VB ca cb cells f W g n D' fl (k + 1) k v X' → (wsT 10).wp Try.prog Q a' X'))
    (hs : Hid (ItS J W0 D0 O b2 P m A cap L VA VB ca cb cells f W g n D fl k k v X))
    (ha : FrN 92 [] [(0, .func (.yield l) #[] #[]), (1, .pointer (some ⟨b3, 0, none⟩)), (2, .pointer (some ⟨b2, 0, none⟩)), (4, .slice (some ⟨g, 0, none⟩) n n), (5, v), (6, .int .i64 (c : Int))] a) : (wsT 9).wp Try.prog Q a X := by
  obtain ⟨U, rfl, e0, e1, e2, e4, e5, e6, -⟩ := ha.openWS
  unfold FrWS
  simp only [e0, e1, e2, e4, e5, e6]
  clear e0 e1 e2 e4 e5 e6 ha
  show (Code.seq _ _).wp _ _ _ _
  refine (wpIn_wide (n := n0)).1 ?_
  refine wpIn_seq_k (fun K hK => ?_)
  have HK := Lib.hid hK
  clear hK
  have htk : fl.take k ++ [(c : Int)] = fl.take (k + 1) := by
    rw [List.take_add_one, List.getElem?_eq_getElem hk, ← hkc, List.getD_eq_getElem?_getD, List.getElem?_eq_getElem hk]; rfl
  obtain ⟨fn, tmps, assign, body, hy, hR⟩ := hY.out (fl.take k) (c : Int) D X (by rw [htk]; exact (List.take_prefix _ _).trans hpre) hs.out.j
  have HR := Lib.hid hR
  have HTK := Lib.hid htk
  simp only [encI] at hy
  clear hR htk hkc
  gi_wp2
  refine ⟨fun h => (by cases h), HR.out.mono ?_⟩
  rintro e W3 ⟨rfl, D', hJ3, hG3, hK3⟩
  have H3 := Lib.hid (hs.out.yield (kj' := k + 1) (by rw [← HTK.out]; exact hJ3) hG3 hK3)
  clear hJ3 hG3 hK3 HR
  dsimp only
  gi_wp2
  refine HK.out _ _ (wpIn_wide.2 ?_)
  exact hnext.out _ _ D' ⟨rfl, rfl, rfl, rfl, rfl, rfl, rfl, rfl, trivial⟩ H3.out
set_option maxHeartbeats 4000000 in
theorem ws_10 (a : Act) (X : World) (D : List Nat) (fl : List Int) (k : Nat) (v : Value) (c : Nat) (hJ : Hid (Stab J)) (hs : SigOk L) (hag : Hid (∀ i, i < cells.length → 0 ≤ cells.getD i 0 ∧ cells.getD i 0 < L.length)) (hok : Hid (NetOk (pnL L) cells f W)) (hc5 : cells.length ≤ 5000)
    (hn : n = cells.length) (hcn : c < n) (hk : k < fl.length) (hf0 : Fnd n fl)
    (hgo : Hid (∀ a' X' v', FrN 92 [] [(0, .func (.yield l) #[] #[]), (1, .pointer (some ⟨b3, 0, none⟩)), (2, .pointer (some ⟨b2, 0, none⟩)), (4, .slice (some ⟨g, 0, none⟩) n n), (5, v')] a' → ItS J W0 D0 O b2 P m A cap L VA VB ca cb cells f W g n D (visit (rowP (pnL L) cells (lkM W) (c : Int)) fl) (k + 1) k v' X' → Q .normal a' X'))
    (hs0 : Hid (ItS J W0 D0 O b2 P m A cap L VA VB ca cb cells f W g n D fl (k + 1) k v X))
    (ha : FrN 92 [] [(0, .func (.yield l) #[] #[]), (1, .pointer (some ⟨b3, 0, none⟩)), (2, .pointer (some ⟨b2, 0, none⟩)), (4, .slice (some ⟨g, 0, none⟩) n n), (5, v), (6, .int .i64 (c : Int))] a) : (wsT 10).wp Try.prog Q a X := by
  obtain ⟨U, rfl, e0, e1, e2, e4, e5, e6, -⟩ := ha.openWS
  unfold FrWS
  simp only [e0, e1, e2, e4, e5, e6]
  clear e0 e1 e2 e4 e5 e6 ha
  show (Code.seq _ _).wp _ _ _ _
  obtain ⟨b, off, rfl, hb, q0⟩ := hs0.out.web.c c (by omega)
  obtain ⟨hx0, hx1⟩ := hag.out c (by omega)
  have hpn := pnL_in hs hx0 hx1
  have hp7 := pnL_le hs (cells.getD c 0)
  obtain ⟨M, hM⟩ : ∃ M, pnL L (cells.getD c 0) = M := ⟨_, rfl⟩
  have HM := Lib.hid hM
  rw [hM] at hpn hp7
  have har := hs.ar (cells.getD c 0).toNat (by omega)
  clear hM
  generalize hxx : cells.getD c 0 = x at q0 hx0 hx1 hpn har
  have HXX := Lib.hid hxx
  clear hxx
  obtain ⟨ag, rfl⟩ := Int.eq_ofNat_of_zero_le hx0
  have haL : ag < L.length := by omega
  obtain ⟨b9, off9, rfl, hb9, q1, q2⟩ := hs0.out.web.a ag haL
  rw [Int.toNat_natCast] at hpn har
  clear q1 hx0 hx1
  generalize agA L ag = r at q2 hpn har
  have hsum : IntKind.i64.wrap (r + 1) = (M : Int) := by rw [IntWalk.i64_in _ (by omega)]; omega
  obtain ⟨p0, p1, p2, hPl⟩ := hs0.out.web.fld
  obtain ⟨pb, hbl⟩ := hs0.out.bwc
  have HN := Lib.hid hn
  rw [← hn] at p0
  have HC := Lib.hid (And.intro hcn hk)
  have hcc : (c : Int) < (n : Int) := by omega
  have hn5 : n ≤ 5000 := by omega
  have haa : (ag : Int) < (L.length : Int) := by omega
  clear hpn har hn
  go_wp2_with fail
  go_quiet (fail)
  go_wp2_with fail
  refine absW (fun Z => ItS J W0 D0 O b2 P m (some ⟨b9, off9, none⟩) cap L (some ⟨b, off, none⟩) VB ca cb cells f W g n D fl (k + 1) k v Z) (hs0.out.draw hJ.out _) ?_
  intro Z hZ
  have H0 : Hid (∃ fl2, ItS J W0 D0 O b2 P m (some ⟨b9, off9, none⟩) cap L (some ⟨b, off, none⟩) VB ca cb cells f W g n D fl2 (k + 1) k v Z ∧ Fnd n fl2 ∧ fl <+: fl2 ∧ fl2 = visitK (rowP (pnL L) cells (lkM W) (c : Int)) fl 0) := ⟨fl, hZ, hf0, List.prefix_refl _, (visitK_0 _ _).symm⟩
  clear p0 p1 p2 hPl pb hbl hb hb9 q0 q2 hZ hsum haa hs0 hf0
  obtain ⟨i0, hi0, hi1, hi2, hi3⟩ := info_parts int_info
  have hfd := field_port
  go_loopw [5, 63] (fun v s wr => ∃ (sx : Nat) (fl2 : List Int), s = .int .i64 (sx : Int) ∧ sx ≤ M ∧ Hid (ItS J W0 D0 O b2 P m (some ⟨b9, off9, none⟩) cap L (some ⟨b, off, none⟩) VB ca cb cells f W g n D fl2 (k + 1) k v wr ∧ Fnd n fl2 ∧ fl <+: fl2 ∧ fl2 = visitK (rowP (pnL L) cells (lkM W) (c : Int)) fl sx)) (fun _ s _ => M - (intOf s).toNat)
  case atStart =>
    obtain ⟨fl2, h⟩ := H0.out
    exact ⟨0, fl2, rfl, Nat.zero_le _, h⟩
  case round =>
    obtain ⟨sx, fl2, rfl, hsx, HR⟩ := hrel
    clear H0
    have hrl : (rowP (pnL L) cells (lkM W) (c : Int)).length = M := by rw [rowP_len, Int.toNat_natCast, HM.out]
    have HRL := Lib.hid hrl
    clear hrl
    obtain ⟨A5, c5, rfl, _⟩ := HR.out.1.q.form
    obtain ⟨qn, hqn9⟩ : ∃ qn, (fl2.drop k).length = qn := ⟨_, rfl⟩
    rw [hqn9] at HR ⊢
    have HQN := Lib.hid hqn9
    clear hqn9
    by_cases hlt : sx < M
    · have hp : isPt (pnL L) cells f ((c : Int), (sx : Int)) = true := isPt_cell f (by rw [← HN.out]; exact HC.out.1) (by rw [HM.out]; exact hlt)
      have hlk := HR.out.1.web.look hok.out hp
      have hq := (lkM_eq hok.out hp).2
      have hqn := isPt_lt hq
      have hvis : visitK (rowP (pnL L) cells (lkM W) (c : Int)) fl (sx + 1) = addC fl2 (lkM W ((c : Int), (sx : Int))).1 := by
        rw [visitK_succ (by rw [HRL.out]; exact hlt), rowP_at _ (by rw [HM.out]; exact hlt), ← HR.out.2.2.2]
      have HV := Lib.hid hvis
      clear hp hq hvis
      generalize lkM W ((c : Int), (sx : Int)) = q at hlk hqn HV
      obtain ⟨q1, q2⟩ := q
      simp only [encPt] at hlk
      dsimp only at hqn
      rw [← HN.out] at hqn
      have hfl := HR.out.2.1.len
      obtain ⟨p0, p1, p2, hPl⟩ := HR.out.1.web.fld
      obtain ⟨pb, hbl⟩ := HR.out.1.bwc
      have hsx1 : (sx : Int) < (M : Int) := by omega
      by_cases hq0 : q1 < 0
      · have HV2 : Hid (visitK (rowP (pnL L) cells (lkM W) (c : Int)) fl (sx + 1) = fl2) := by show _ = _; rw [HV.out, addC_neg hq0]
        go_wp2_with fail
        go_roundw
        case measure => simp [intOf]; omega
        case rel => exact ⟨sx + 1, fl2, by go_num, by omega, Lib.hid ⟨HR.out.1, HR.out.2.1, HR.out.2.2.1, HV2.out.symm⟩⟩
      · obtain ⟨d, rfl⟩ := Int.eq_ofNat_of_zero_le (show 0 ≤ q1 by omega)
        have hdn : d < n := by omega
        obtain ⟨hgl, hsn, hsf⟩ := HR.out.1.seen hdn
        by_cases hin : (d : Int) ∈ fl2
        · have HV2 : Hid (visitK (rowP (pnL L) cells (lkM W) (c : Int)) fl (sx + 1) = fl2) := by
            show _ = _
            rw [HV.out]; unfold addC; rw [if_neg (fun h => h.2 hin)]
          rw [decide_eq_true hin] at hsn
          clear hin
          go_wp2_with fail
          go_roundw
          case measure => simp [intOf]; omega
          case rel => exact ⟨sx + 1, fl2, by go_num, by omega, Lib.hid ⟨HR.out.1, HR.out.2.1, HR.out.2.2.1, HV2.out.symm⟩⟩
        · have HV2 : Hid (visitK (rowP (pnL L) cells (lkM W) (c : Int)) fl (sx + 1) = fl2 ++ [(d : Int)] ∧ Fnd n (fl2 ++ [(d : Int)])) := by
            have e : addC fl2 (d : Int) = fl2 ++ [(d : Int)] := by unfold addC; rw [if_pos ⟨by omega, hin⟩]
            refine ⟨by rw [HV.out, e], ?_⟩
            rw [← e]; exact HR.out.2.1.add (by omega)
          rw [decide_eq_false hin] at hsn
          have hd2 : (d : Int) < (n : Int) := by omega
          have HWn : Hid (WinI ((wr.setCell ⟨g, d, none⟩ (.bool true)).alloc (.cells #[.int .i64 (d : Int)] 3)) 3 (.slice A5 qn c5) (fl2.drop k)) := by
            have h1 : WinI (wr.setCell ⟨g, d, none⟩ (.bool true)) 3 (.slice A5 qn c5) (fl2.drop k) := HR.out.1.q.keep (fun b hb => Below.heap_setCell _ _ _ b (fun (e : b = g) => HR.out.1.gq (e ▸ hb)))
            exact h1.keep (fun b hb => Below.heap_alloc _ _ _ (h1.lt b hb))
          have HHb : Hid (((wr.setCell ⟨g, d, none⟩ (.bool true)).alloc (.cells #[.int .i64 (d : Int)] 3)).heap[wr.heap.size]? = some (.cells #[.int .i64 (d : Int)] 3 (0, 0))) := by
            have h1 := heap_alloc_new (wr.setCell ⟨g, d, none⟩ (.bool true)) (.cells #[.int .i64 (d : Int)] 3)
            rw [World.size_setCell] at h1; exact h1
          have HKL : Hid (k ≤ fl2.length ∧ k + 1 ≤ fl2.length) := by
            have := HR.out.2.2.1.length_le
            have := HC.out.2
            exact ⟨by omega, by omega⟩
          have HDl : Hid ((fl2.drop k).length ≤ 1000000) := by show _ ≤ _; rw [List.length_drop]; omega
          clear hin
          go_wp2_with (at_builtin; go_loud (refine inPlain rfl (wpo_winI_push _ _ _ rfl i0 _ Try.underlying23 hi0 hi1 hi2 hi3 rfl rfl HWn.out _ 1 (d : Int) rfl HHb.out HDl.out ?_)); intro v5 w5 r5 k5 o5)
          obtain ⟨A6, c6, hv6, _⟩ := r5.form
          rw [List.length_append, HQN.out] at hv6
          subst hv6
          have HS5 := Lib.hid (HR.out.1.push hJ.out HKL.out.2 HKL.out.1 r5 k5 o5)
          clear r5 k5 o5
          go_wp2_with fail
          go_roundw
          case measure => simp [intOf]; omega
          case rel => exact ⟨sx + 1, fl2 ++ [(d : Int)], by go_num, by omega, Lib.hid ⟨HS5.out, HV2.out.2, HR.out.2.2.1.trans (List.prefix_append _ _), HV2.out.1.symm⟩⟩
    · obtain rfl : sx = M := by omega
      have HE : Hid (fl2 = visit (rowP (pnL L) cells (lkM W) (c : Int)) fl) := by show _ = _; rw [HR.out.2.2.2]; unfold visit; rw [HRL.out]
      have HS5 : Hid (ItS J W0 D0 O b2 P m (some ⟨b9, off9, none⟩) cap L (some ⟨b, off, none⟩) VB ca cb cells f W g n D (visit (rowP (pnL L) cells (lkM W) (c : Int)) fl) (k + 1) k (.slice A5 qn c5) wr) := by rw [← HE.out]; exact HR.out.1
      go_wp2_with fail
      exact hgo.out _ _ _ ⟨rfl, rfl, rfl, rfl, rfl, rfl, rfl, trivial⟩ HS5.out
theorem win_cut (g' off' cap' qn : Nat) (hc : qn + 1 ≤ cap') (wx : World) : (Instr.slice 23 (.slice (some ⟨g', off', none⟩) (qn + 1) cap') (some (.int .i64 1)) none none).run Try.prog wx = .ok (.slice (some (if cap' = 1 then (⟨g', off', none⟩ : Addr) else ⟨g', off' + 1, none⟩)) qn (cap' - 1)) wx := by
  obtain ⟨i, hi, _, hsz, _⟩ := info_parts int_info
  have hb : (Instr.sliceBounds true (qn + 1) cap' (some (.int .i64 1)) none none).run Try.prog wx = .ok (1, qn + 1, cap') wx := by
    simp [Instr.sliceBounds, Instr.sliceBound, asIntOf]
    intro h
    omega
  simp only [Instr.slice, Sem.run_bind, run_underlying Try.underlying23, Result.andThen_ok, hb]
  split <;> simp [sizeOf, typeInfo, hi, hsz, Addr.add_lit]
set_option maxHeartbeats 4000000 in
theorem ws_6 (a : Act) (X : World) (D : List Nat) (fl wl : List Int) (k : Nat) (v : Value) (hJ : Hid (Stab J)) (hs : SigOk L) (hag : Hid (∀ i, i < cells.length → 0 ≤ cells.getD i 0 ∧ cells.getD i 0 < L.length)) (hok : Hid (NetOk (pnL L) cells f W)) (hc5 : cells.length ≤ 5000)
    (hn : n = cells.length) (hk : k ≤ fl.length) (hf0 : Fnd n fl) (hwl : walkF (rowP (pnL L) cells (lkM W)) (n + 1 - k) k fl = wl)
    (hY : Hid (∀ pre x D W1, pre ++ [x] <+: wl → J pre D W1 → YieldAt Fence.wide (n0 - 1) Try.prog l (encI x) W1 fun e W' => e = .returned (.bool true) ∧ ∃ D', J (pre ++ [x]) D' W' ∧ Gr D W1 D' ∧ Kp D W1 W'))
    (hgo : Hid (∀ a' X' D' fl' v', k < fl.length → FrN 92 [] [(0, .func (.yield l) #[] #[]), (1, .pointer (some ⟨b3, 0, none⟩)), (2, .pointer (some ⟨b2, 0, none⟩)), (4, .slice (some ⟨g, 0, none⟩) n n), (5, v')] a' → ItS J W0 D0 O b2 P m A cap L VA VB ca cb cells f W g n D' fl' (k + 1) (k + 1) v' X' → k + 1 ≤ fl'.length → Fnd n fl' → walkF (rowP (pnL L) cells (lkM W)) (n + 1 - (k + 1)) (k + 1) fl' = wl → Q .normal a' X'))
    (hout : Hid (∀ a' X', a'.defers = [] → a'.tmps.size = 92 → J wl D X' → Kp (O ++ D0) W0 X' → Q (.exit 0) a' X'))
    (hs0 : Hid (ItS J W0 D0 O b2 P m A cap L VA VB ca cb cells f W g n D fl k k v X))
    (ha : FrN 92 [] [(0, .func (.yield l) #[] #[]), (1, .pointer (some ⟨b3, 0, none⟩)), (2, .pointer (some ⟨b2, 0, none⟩)), (4, .slice (some ⟨g, 0, none⟩) n n), (5, v)] a) : (wsT 6).wp Try.prog Q a X := by
  obtain ⟨U, rfl, e0, e1, e2, e4, e5, -⟩ := ha.openWS
  unfold FrWS
  simp only [e0, e1, e2, e4, e5]
  clear e0 e1 e2 e4 e5 ha
  show (Code.seq _ _).wp _ _ _ _
  have HF := Lib.hid (And.intro hf0 hwl)
  have HN := Lib.hid hn
  have hfl := hf0.len
  have hn5 : n ≤ 5000 := by omega
  clear hf0 hwl hn
  by_cases hlt : k < fl.length
  · obtain ⟨x, hx⟩ : ∃ x, fl.getD k 0 = x := ⟨_, rfl⟩
    have hdr : fl.drop k = x :: fl.drop (k + 1) := by
      rw [List.drop_eq_getElem_cons hlt, ← hx, List.getD_eq_getElem?_getD, List.getElem?_eq_getElem hlt]; rfl
    have hx0 := HF.out.1.lt x (by rw [← hx, List.getD_eq_getElem?_getD, List.getElem?_eq_getElem hlt]; exact List.getElem_mem hlt)
    obtain ⟨c, rfl⟩ := Int.eq_ofNat_of_zero_le hx0.1
    have hcn : c < n := by omega
    have HX := Lib.hid hx
    have hq := hs0.out.q
    rw [hdr] at hq
    obtain ⟨g', off', cap', rfl, hcap, hgl, hcell, hwin⟩ := hq.head
    obtain ⟨qn, hqn⟩ : ∃ qn, (fl.drop (k + 1)).length = qn := ⟨_, rfl⟩
    rw [hqn] at hcap hwin hs0 ⊢
    have HW := Lib.hid hwin
    have HQN := Lib.hid hqn
    have HG : Hid (k < fl.length) := hlt
    clear hx hdr hx0 hwin hq hqn
    iterate 80 (first | (with_reducible refine at_seq3 9 ?_) | (with_reducible refine at_seq2 9 ?_) | (with_reducible refine at_seq 9 ?_) | go_values | go_skip | go_guarded | go_step | go_upon | go_back | go_simp)
    refine ws_9 _ n0 l J W0 D0 O b2 b3 P m A cap L VA VB ca cb cells f W g n _ X D fl wl k _ c hlt HX.out (by rw [← HF.out.2]; exact walkF_pre _ _ _ _) hY (Lib.hid fun a9 X9 D9 hf9 hs9 => ?_) hs0 ⟨rfl, rfl, rfl, rfl, rfl, rfl, rfl, rfl, trivial⟩
    refine ws_10 _ l J W0 D0 O b2 b3 P m A cap L VA VB ca cb cells f W g n a9 X9 D9 fl k _ c hJ hs hag hok hc5 HN.out hcn hlt HF.out.1 (Lib.hid fun a10 X10 v10 hf10 hs10 => ?_) (Lib.hid hs9) hf9
    obtain ⟨U2, rfl, e0, e1, e2, e4, e5, -⟩ := hf10.openWS
    have HS10 := Lib.hid hs10
    unfold FrWS
    simp only [e0, e1, e2, e4, e5]
    clear e0 e1 e2 e4 e5 hf10 hs10 hf9 hs9 hcell hgl
    obtain ⟨fl', hfl'⟩ : ∃ l, visit (rowP (pnL L) cells (lkM W) (c : Int)) fl = l := ⟨_, rfl⟩
    rw [hfl'] at HS10
    have hpre : fl <+: fl' := by rw [← hfl']; exact visitK_pre _ _ _
    have hlt' : k < fl'.length := Nat.lt_of_lt_of_le HG.out hpre.length_le
    have hgd : fl'.getD k 0 = (c : Int) := by
      obtain ⟨r, rfl⟩ := hpre
      rw [List.getD_eq_getElem?_getD, List.getElem?_append_left HG.out, ← List.getD_eq_getElem?_getD]; exact HX.out
    have hdr : fl'.drop k = (c : Int) :: fl'.drop (k + 1) := by
      rw [List.drop_eq_getElem_cons hlt', ← hgd, List.getD_eq_getElem?_getD, List.getElem?_eq_getElem hlt']; rfl
    have hq := HS10.out.q
    rw [hdr] at hq
    obtain ⟨g2, off2, cap2, rfl, hcap2, hgl2, hcell2, hwin2⟩ := hq.head
    obtain ⟨q2, hq2⟩ : ∃ q2, (fl'.drop (k + 1)).length = q2 := ⟨_, rfl⟩
    rw [hq2] at hcap2 hwin2 HS10 ⊢
    have hcut := win_cut g2 off2 cap2 q2 hcap2
    obtain ⟨ad, had⟩ : ∃ ad, (if cap2 = 1 then (⟨g2, off2, none⟩ : Addr) else ⟨g2, off2 + 1, none⟩) = ad := ⟨_, rfl⟩
    rw [had] at hcut hwin2
    have HFin : Hid (ItS J W0 D0 O b2 P m A cap L VA VB ca cb cells f W g n D9 fl' (k + 1) (k + 1) (.slice (some ad) q2 (cap2 - 1)) X10) := HS10.out.cut hwin2 (by rw [← had]; split <;> rfl)
    have HF2 : Hid (Fnd n fl' ∧ walkF (rowP (pnL L) cells (lkM W)) (n + 1 - (k + 1)) (k + 1) fl' = wl) := by
      refine ⟨by rw [← hfl']; exact HF.out.1.visitK (fun p hp => by
        obtain ⟨y, rfl⟩ := rowP_mem hp
        rw [HN.out]; exact lkM_lt hok.out y) _, ?_⟩
      have h1 := HF.out.2
      rw [show n + 1 - k = (n + 1 - (k + 1)) + 1 by have := HG.out; omega, walkF_step HG.out, HX.out, hfl'] at h1
      exact h1
    have HL2 : Hid (k + 1 ≤ fl'.length) := hlt'
    clear hfl' hpre hlt' hgd hdr hq hgl2 hcell2 hwin2 had hq2
    repeat (first
      | exact hgo.out _ _ D9 fl' _ HG.out ⟨rfl, rfl, rfl, rfl, rfl, rfl, rfl, trivial⟩ HFin.out HL2.out HF2.out.1 HF2.out.2
      | go_values | go_skip | go_guarded | go_step | go_upon | go_back)
  · obtain rfl : k = fl.length := by omega
    have hq0 : (fl.drop fl.length).length = 0 := by simp
    obtain ⟨A5, c5, rfl, _⟩ := hs0.out.q.form
    have HJ9 : Hid (J wl D X ∧ Kp (O ++ D0) W0 X) := by
      refine ⟨?_, hs0.out.kp⟩
      have := hs0.out.j
      rw [List.take_length] at this
      rw [← HF.out.2, walkF_done (Nat.le_refl _)]; exact this
    rw [hq0] at hs0 ⊢
    clear hlt
    go_wp2_with fail
    exact hout.out _ _ rfl rfl HJ9.out.1 HJ9.out.2
end
end Go.Proofs.Ytogbanlfihabpaa
