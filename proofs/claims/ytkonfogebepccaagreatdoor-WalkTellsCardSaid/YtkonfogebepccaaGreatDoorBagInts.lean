/-
  skeinref00.Bag.apartInts: the lists are written full, gone on with, looked at: every mark stands.
-/
import Derived.Test.YtkonfogebepccaaGreatDoorBagNum
namespace Go.Proofs.YtkonfogebepccaaGreatDoor
open Go.RowKit
attribute [local go_sem] cell_set
set_option maxRecDepth 100000
set_option linter.unusedVariables false

noncomputable def bgIntsT (n : Nat) : Code := ((Tryz.f41.body).bind (tailQ n)).getD .skip
def cInts (x : Int) : List Value := [.int .i64 x]
theorem cInts_len (x : Int) : (cInts x).length = 1 := rfl
def FrInts (ds : List Deferred) (U : Nat → Value) : Act := { tmps := (U 0 :: U 1 :: U 2 :: U 3 :: U 4 :: U 5 :: U 6 :: U 7 :: U 8 :: U 9 :: U 10 :: U 11 :: U 12 :: U 13 :: U 14 :: U 15 :: U 16 :: U 17 :: U 18 :: U 19 :: U 20 :: U 21 :: U 22 :: U 23 :: U 24 :: U 25 :: U 26 :: U 27 :: U 28 :: U 29 :: U 30 :: U 31 :: U 32 :: U 33 :: U 34 :: U 35 :: U 36 :: U 37 :: U 38 :: U 39 :: U 40 :: U 41 :: U 42 :: U 43 :: U 44 :: U 45 :: U 46 :: U 47 :: U 48 :: U 49 :: U 50 :: U 51 :: U 52 :: U 53 :: U 54 :: U 55 :: U 56 :: U 57 :: U 58 :: U 59 :: U 60 :: U 61 :: U 62 :: U 63 :: U 64 :: U 65 :: U 66 :: U 67 :: U 68 :: U 69 :: U 70 :: U 71 :: U 72 :: U 73 :: U 74 :: U 75 :: U 76 :: U 77 :: U 78 :: U 79 :: U 80 :: U 81 :: U 82 :: U 83 :: U 84 :: U 85 :: U 86 :: U 87 :: U 88 :: U 89 :: U 90 :: U 91 :: U 92 :: U 93 :: U 94 :: U 95 :: U 96 :: U 97 :: U 98 :: U 99 :: U 100 :: U 101 :: U 102 :: U 103 :: U 104 :: U 105 :: U 106 :: U 107 :: U 108 :: U 109 :: U 110 :: U 111 :: U 112 :: U 113 :: U 114 :: U 115 :: U 116 :: U 117 :: U 118 :: U 119 :: U 120 :: U 121 :: U 122 :: U 123 :: U 124 :: U 125 :: U 126 :: U 127 :: U 128 :: U 129 :: U 130 :: U 131 :: U 132 :: U 133 :: U 134 :: U 135 :: U 136 :: U 137 :: U 138 :: U 139 :: U 140 :: U 141 :: U 142 :: U 143 :: U 144 :: U 145 :: U 146 :: U 147 :: U 148 :: U 149 :: U 150 :: U 151 :: U 152 :: U 153 :: U 154 :: U 155 :: U 156 :: U 157 :: U 158 :: U 159 :: U 160 :: U 161 :: U 162 :: U 163 :: U 164 :: U 165 :: U 166 :: U 167 :: U 168 :: U 169 :: U 170 :: U 171 :: U 172 :: U 173 :: U 174 :: U 175 :: U 176 :: U 177 :: U 178 :: U 179 :: U 180 :: U 181 :: U 182 :: []).toArray, defers := ds }
theorem FrN.openInts {ds : List Deferred} {L : List (Nat × Value)} {a : Act} (h : FrN 183 ds L a) : ∃ U, a = FrInts ds U ∧ Us U L := h.open_
theorem rowsInts_info : (Tryz.prog.info? 23).map (fun i => (i.zero, i.size, i.bytes)) = some (some (.slice none 0 0), 1, 24) := by kernel_rfl
section
variable (Q : Exit → Act → World → Prop) (G N VC : Nat) (VA : Option Addr) (v : Nat → Value) (len : Nat → Nat) (F : List Nat) (w0 : World)
set_option maxHeartbeats 4000000 in
/-- They are written full. -/
theorem apInts_1 (a : Act) (X : World) (hN : N ≤ 300) (hlen : Hid (∀ i, i < N → len i ≤ 1000000)) (hB : Hid (Bg 3 23 1 cInts G 1 (.slice VA N VC) N v len F w0 0 X))
    (hnext : Hid (∀ a' X', FrN 183 [] [(0, .pointer (some ⟨G, 0, none⟩))] a' → Bg 3 23 1 cInts G 1 (.slice VA N VC) N v len F w0 N X' → (bgIntsT 8).wp Tryz.prog Q a' X')) (ha : FrN 183 [] [(0, .pointer (some ⟨G, 0, none⟩))] a) : (bgIntsT 1).wp Tryz.prog Q a X := by
  obtain ⟨U, rfl, e0, -⟩ := ha.openInts
  unfold FrInts
  simp only [e0]
  clear e0 ha
  show (Code.seq _ _).wp _ _ _ _
  go_wp2_with fail
  go_loopw [3] (fun n wr => ∃ k : Nat, n = .int .i64 k ∧ k ≤ N ∧ Hid (Bg 3 23 1 cInts G 1 (.slice VA N VC) N v len F w0 k wr)) (fun n _ => N - (intOf n).toNat)
  case atStart => exact ⟨0, rfl, Nat.zero_le _, hB⟩
  case round =>
    obtain ⟨k, rfl, hk, HR⟩ := hrel
    clear hB
    have h0 := HR.out.hd
    have hG := HR.out.lt
    by_cases hlt : k < N
    · obtain ⟨gV, cV, hVe, hgV, _⟩ := HR.out.listAt hlt
      simp only [Value.slice.injEq, true_and] at hVe
      obtain ⟨rfl, rfl⟩ := hVe
      obtain ⟨A, cap, hv⟩ : ∃ A cap, v k = .slice A (len k) cap := by obtain ⟨xs, h1, _⟩ := HR.out.os k hlt; obtain ⟨A, cap, e, _⟩ := h1.len; exact ⟨A, cap, e⟩
      obtain ⟨L, hL⟩ : ∃ L, len k = L := ⟨_, rfl⟩
      have hL1 := hlen.out k hlt
      rw [hL] at hv hL1
      have HL := Lib.hid (And.intro hL hv)
      have H0 : Hid (Bg 3 23 1 cInts G 1 (.slice (some ⟨gV, 0, none⟩) N VC) N v len F w0 k wr ∧ ∃ xs, Row wr 3 1 (.slice A L cap) L (mkB cInts k 0 ++ xs)) := ⟨HR.out, by obtain ⟨xs, h1, _⟩ := HR.out.os k hlt; rw [hv, hL] at h1; exact ⟨xs, by simpa [mkB_0] using h1⟩⟩
      clear h0 hG HR hL hv hgV
      have h0 := H0.out.1.hd
      have hG := H0.out.1.lt
      go_wp2_with fail
      go_loopw [4] (fun i wr => ∃ j : Nat, i = .int .i64 j ∧ j ≤ L ∧ Hid (Bg 3 23 1 cInts G 1 (.slice (some ⟨gV, 0, none⟩) N VC) N v len F w0 k wr ∧ ∃ xs, Row wr 3 1 (.slice A L cap) L (mkB cInts k j ++ xs))) (fun i _ => L - (intOf i).toNat)
      case atStart => exact ⟨0, rfl, Nat.zero_le _, H0⟩
      case round =>
        obtain ⟨j, rfl, hj, HJ⟩ := hrel
        clear H0
        obtain ⟨gV', cV', hVe, hgV, q1⟩ := HJ.out.1.listAt hlt
        simp only [Value.slice.injEq, Option.some.injEq, Addr.mk.injEq, and_true, true_and] at hVe
        obtain ⟨rfl, rfl⟩ := hVe
        rw [HL.out.2] at q1
        have h0 := HJ.out.1.hd
        have hG := HJ.out.1.lt
        by_cases hjl : j < L
        · obtain ⟨g, cap', hv2, hrow⟩ : ∃ g cap', (Value.slice A L cap) = .slice (some ⟨g, 0, none⟩) L cap' ∧ ∃ xs, Row wr 3 1 (.slice (some ⟨g, 0, none⟩) L cap') L (mkB cInts k j ++ xs) := by
            obtain ⟨xs, h1⟩ := HJ.out.2
            obtain ⟨g, cap', cur, e, _⟩ := h1.some_ (by omega)
            exact ⟨g, cap', e, xs, e ▸ h1⟩
          simp only [Value.slice.injEq, true_and] at hv2
          obtain ⟨rfl, rfl⟩ := hv2
          obtain ⟨xs, hrow⟩ := hrow
          have hlr := hrow.1
          have s0 : wr.frozen? ⟨g, j, none⟩ = false := hrow.frozenAt _
          obtain ⟨u0v, t0v⟩ : ∃ u, wr.cell? ⟨g, j, none⟩ = some u := ⟨_, (hrow.cellAt (j) (by omega)).trans (List.getElem?_eq_getElem (by omega))⟩
          have hgl : g < wr.heap.size := hrow.lt _ (by simp [ownB])
          obtain ⟨xs', hr'⟩ := row_mark1 hrow (mkB_len (c := cInts) cInts_len k j) hjl (.int .i64 (markB k j))
          have hmk : mkB cInts k (j + 1) = mkB cInts k j ++ [.int .i64 (markB k j)] := mkB_succ _ _ _
          rw [← hmk] at hr'
          have HR' := Lib.hid hr'
          have hgG : g ≠ G := (HJ.out.1.ol k hlt g (by rw [HL.out.2]; simp [ownB])).2.1
          have hgV2 : g ≠ gV := fun e => row_ne hrow HJ.out.1.rw HJ.out.1.ne g (by simp [ownB]) (by simp [ownB, e])
          have hj1 : j ≤ 2000000 := by omega
          clear hrow hlr hr' hmk
          have hk3 : k ≤ 1000 := by omega
          go_wp2_with fail
          go_region_held3 (fun w' => w'.cell? ⟨G, 1, none⟩ = some (.slice (some ⟨gV, 0, none⟩) N VC) ∧ w'.cell? ⟨gV, k, none⟩ = some (.slice (some ⟨g, 0, none⟩) L cap)) (first | exact ⟨h0, q1⟩ | exact ⟨by go_simp, by go_simp⟩)
            ((go_at_call 24; refine (num_is k j hk3 hj1 _).mono ?_; rintro e w5 ⟨rfl, rfl⟩))
          go_wp2_with fail
          go_roundw
          case rel =>
            refine ⟨j + 1, by go_num, by omega, Lib.hid ⟨HJ.out.1.touch hlt ?_ (ys := mkB cInts k (j + 1) ++ xs') ?_, xs', HR'.out.drew⟩⟩
            · rw [HL.out.2]; exact ((Kp.refl _ _).setCell (p := ⟨g, j, none⟩) (.inl (by simp [ownB])) _).drew
            · rw [HL.out.1, HL.out.2]; exact HR'.out.drew
          case measure => simp [intOf]; omega
        · obtain rfl : j = L := by omega
          go_wp2_with fail
          go_roundw
          case rel =>
            obtain ⟨xs, h1⟩ := HJ.out.2
            have h2 := row_end cInts_len h1
            exact ⟨k + 1, by go_num, by omega, Lib.hid (HJ.out.1.next (by rw [HL.out.1, HL.out.2]; exact h2))⟩
          case measure => simp [intOf]; omega
    · obtain rfl : k = N := by omega
      iterate 80 (first | (with_reducible refine at_seq3 8 ?_) | (with_reducible refine at_seq2 8 ?_) | (with_reducible refine at_seq 8 ?_) | go_values | go_skip | go_guarded | go_step | go_upon | go_back | go_simp)
      exact hnext.out _ _ ⟨rfl, rfl, rfl, trivial⟩ HR.out
end
section
variable (Q : Exit → Act → World → Prop) (G N VC : Nat) (VA : Option Addr) (v : Nat → Value) (len : Nat → Nat) (F : List Nat) (w0 : World)
set_option maxHeartbeats 4000000 in
/-- They are gone on with. -/
theorem apInts_8 (a : Act) (X : World) (hN : N ≤ 300) (hlen : Hid (∀ i, i < N → len i ≤ 1000000)) (hB : Hid (Bg 3 23 1 cInts G 1 (.slice VA N VC) N v len F w0 N X))
    (hnext : Hid (∀ a' X' s5 s6 ov mv, FrN 183 [] [(0, .pointer (some ⟨G, 0, none⟩)), (5, s5), (6, s6)] a' → P2 3 23 1 cInts G 1 (.slice VA N VC) N v len F w0 N N s5 s6 ov mv X' → (bgIntsT 20).wp Tryz.prog Q a' X')) (ha : FrN 183 [] [(0, .pointer (some ⟨G, 0, none⟩))] a) : (bgIntsT 8).wp Tryz.prog Q a X := by
  obtain ⟨U, rfl, e0, -⟩ := ha.openInts
  unfold FrInts
  simp only [e0]
  clear e0 ha
  show (Code.seq _ _).wp _ _ _ _
  obtain ⟨i0, hi0, hi1, hi2, hi3⟩ := info_parts int_info
  obtain ⟨j0, hf0, hf1, hf2, hf3⟩ := info_parts rowsInts_info
  go_wp2_with fail
  go_loopw [5, 6, 7] (fun s5 s6 n wr => ∃ k : Nat, n = .int .i64 k ∧ k ≤ N ∧ Hid (∃ ov mv, P2 3 23 1 cInts G 1 (.slice VA N VC) N v len F w0 k k s5 s6 ov mv wr)) (fun _ _ n _ => N - (intOf n).toNat)
  case atStart => exact ⟨0, rfl, Nat.zero_le _, v, v, P2.begin hB.out _ _⟩
  case round =>
    obtain ⟨k, rfl, hk, HR⟩ := hrel
    clear hB
    obtain ⟨ov, mv, HR⟩ := HR.out
    have HR := Lib.hid HR
    have h0 := HR.out.bg.hd
    have hG := HR.out.bg.lt
    by_cases hlt : k < N
    · obtain ⟨gV, cV, hVe, hgV, q1⟩ := HR.out.bg.listAt hlt
      simp only [Value.slice.injEq, true_and] at hVe
      obtain ⟨rfl, rfl⟩ := hVe
      obtain ⟨A, cap, hv, hLc⟩ : ∃ A cap, v k = .slice A (len k) cap ∧ len k ≤ cap := (HR.out.bg.full hlt).len
      obtain ⟨L, hL⟩ : ∃ L, len k = L := ⟨_, rfl⟩
      have hL1 := hlen.out k hlt
      rw [hL] at hv hL1
      rw [hv] at q1
      have HL := Lib.hid (And.intro hL hv)
      have H0 : Hid (∃ k5 ov, P3 3 23 1 cInts G 1 (.slice (some ⟨gV, 0, none⟩) N VC) N v len F w0 k5 k u5 u6 ov mv 0 (.slice A L cap) wr ∧ K5 0 k k5) := ⟨k, ov, hv ▸ P3.begin HR.out hlt, .inl ⟨rfl, rfl⟩⟩
      clear hL hv HR hLc
      go_wp2_with fail
      go_loopw [5, 8, 9] (fun s5 l i wr => ∃ j m : Nat, i = .int .i64 m ∧ m = L + j ∧ j ≤ 70 ∧ Hid (∃ k5 ov, P3 3 23 1 cInts G 1 (.slice (some ⟨gV, 0, none⟩) N VC) N v len F w0 k5 k s5 u6 ov mv j l wr ∧ K5 j k k5)) (fun _ _ i _ => L + 70 - (intOf i).toNat)
      case atStart => exact ⟨0, L, rfl, rfl, by omega, H0⟩
      case round =>
        obtain ⟨j, m, rfl, hm, hj, HJ⟩ := hrel
        clear H0
        obtain ⟨k5, ov, HP, hk5⟩ := HJ.out
        have HP := Lib.hid HP
        clear HJ h0 q1 hG hgV
        obtain ⟨gV', cV', hVe, hgV, q1⟩ := HP.out.p.bg.listAt hlt
        simp only [Value.slice.injEq, Option.some.injEq, Addr.mk.injEq, and_true, true_and] at hVe
        obtain ⟨rfl, rfl⟩ := hVe
        rw [HL.out.2] at q1
        have h0 := HP.out.p.bg.hd
        have hG := HP.out.p.bg.lt
        have hw70 : IntKind.i64.wrap ((L : Int) + 70) = (L : Int) + 70 := IntWalk.i64_in _ (by omega)
        by_cases hjl : j < 70
        · have hj1 : m ≤ 2000000 := by omega
          have hk3 : k ≤ 1000 := by omega
          have hO : Below wr.heap.size wr (wr.alloc (.cells #[.int .i64 (markB k m)] 3)) := (Below.refl _ _).alloc (Nat.le_refl _) _
          have HPA := Lib.hid (HP.out.grow hO)
          have HRow : Hid (Row (wr.alloc (.cells #[.int .i64 (markB k m)] 3)) 3 1 u8 (len k + j) (mkB cInts k (len k + j))) := HPA.out.rl
          have HSrc : Hid (Src (wr.alloc (.cells #[.int .i64 (markB k m)] 3)) (some ⟨wr.heap.size, 0, none⟩) 1 1 [.int .i64 (markB k m)]) :=
            Src.block (cs := #[.int .i64 (markB k m)]) (t := 3) (fr := (0, 0)) (heap_alloc_new wr _) rfl (by simp [Value.oneCell'])
          have hme : len k + j = m := by rw [HL.out.1]; exact hm.symm
          rw [hme] at HRow
          have HB63 : m + 1 ≤ maxLen := by simp only [maxLen]; omega
          have HB47 : (m + 1) * 8 ≤ 140737488355328 := by omega
          have HME := Lib.hid hme
          have hmL : L ≤ m := by omega
          have hm2 : m < L + 70 := by omega
          have hmz : (j = 0 → m = L) ∧ (j ≠ 0 → m ≠ L) := by omega
          have HK5 := Lib.hid (And.intro hmz hk5)
          clear hO hm hme hmz hk5
          go_upto_region 17 with ((first
                                    | (go_at_call 24; refine (num_is k m hk3 hj1 _).mono ?_; rintro e w5 ⟨rfl, rfl⟩)
                                    | (at_builtin; go_loud (refine inPlain rfl (wpo_row_append_keeps _ _ _ rfl i0 _ 8 Tryz.underlying23 hi0 hi1 hi2 hi3 rfl rfl HRow.out _ 1 1 rfl [.int .i64 (markB k m)] HSrc.out HB63 HB47 ?_)); intro l2 w2 r2 k2 o2 e2)))
          have HN := Lib.hid (HPA.out.app (by rw [HME.out]; exact r2) k2 o2 (by rw [HME.out]; exact e2))
          obtain ⟨A2, c2, rfl, _⟩ := r2.len
          clear r2 k2 o2 e2 q1 h0 hG hgV HRow HSrc HPA
          obtain ⟨gV', cV', hVe, hgV, q1⟩ := HN.out.p.bg.listAt hlt
          simp only [Value.slice.injEq, Option.some.injEq, Addr.mk.injEq, and_true, true_and] at hVe
          obtain ⟨rfl, rfl⟩ := hVe
          rw [HL.out.2] at q1
          have h0 := HN.out.p.bg.hd
          have hG := HN.out.p.bg.lt
          have HB63b : k + 1 ≤ maxLen := by simp only [maxLen]; omega
          have HB47b : (k + 1) * 24 ≤ 140737488355328 := by omega
          by_cases hj0 : j = 0
          · have hk5 : k5 = k := by rcases HK5.out.2 with h | h <;> omega
            have hmL2 : m = L := HK5.out.1.1 hj0
            subst hk5 hj0
            obtain ⟨A5, c5, rfl, _⟩ := HN.out.p.r5.len
            have e0 : ((m : Int) == (L : Int)) = true := beq_iff_eq.2 (by omega)
            have HML := Lib.hid hmL2
            have hO : Below w2.heap.size w2 (w2.alloc (.cells #[.slice A2 (m + 1) c2] 23)) := (Below.refl _ _).alloc (Nat.le_refl _) _
            have HPB := Lib.hid (HN.out.grow hO)
            have HRow5 : Hid (Row (w2.alloc (.cells #[.slice A2 (m + 1) c2] 23)) 23 1 (.slice A5 k5 c5) k5 ((List.range k5).map ov)) := HPB.out.p.r5
            have HSrc5 : Hid (Src (w2.alloc (.cells #[.slice A2 (m + 1) c2] 23)) (some ⟨w2.heap.size, 0, none⟩) 1 1 [.slice A2 (m + 1) c2]) :=
              Src.block (cs := #[.slice A2 (m + 1) c2]) (t := 23) (fr := (0, 0)) (heap_alloc_new w2 _) rfl (by simp [Value.oneCell'])
            clear hO hmL2
            go_wp2_with (at_builtin; go_loud (refine inPlain rfl (wpo_row_append _ _ _ rfl j0 _ 24 Tryz.underlying50 hf0 hf1 hf2 hf3 rfl rfl HRow5.out _ 1 1 rfl [.slice A2 (m + 1) c2] HSrc5.out HB63b HB47b ?_)); intro s7 w3 r3 k3 o3)
            go_roundw
            case rel => exact ⟨1, m + 1, by go_num, by have := HML.out; omega, by omega, Lib.hid ⟨k5 + 1, updV ov k5 _, HPB.out.one r3 k3 o3, .inr ⟨by omega, rfl⟩⟩⟩
            case measure => simp [intOf]; omega
          · have hk5 : k5 = k + 1 := by rcases HK5.out.2 with h | h <;> omega
            have hmL2 : m ≠ L := HK5.out.1.2 hj0
            subst hk5
            have e0 : ((m : Int) == (L : Int)) = false := beq_eq_false_iff_ne.2 (by omega)
            have HML := Lib.hid hmL2
            clear hmL2
            go_wp2_with fail
            go_roundw
            case rel => exact ⟨j + 1, m + 1, by go_num, by have := HME.out; have := HL.out.1; omega, by omega, Lib.hid ⟨k + 1, ov, HN.out, .inr ⟨by omega, rfl⟩⟩⟩
            case measure => simp [intOf]; omega
        · have hk6 : k5 = k + 1 := by rcases hk5 with h | h <;> omega
          subst hk6
          obtain rfl : j = 70 := by omega
          obtain rfl := hm
          obtain ⟨A8, c8, rfl, _⟩ := HP.out.rl.len
          obtain ⟨A6, c6, rfl, _⟩ := HP.out.p.r6.len
          have HB63b : k + 1 ≤ maxLen := by simp only [maxLen]; omega
          have HB47b : (k + 1) * 24 ≤ 140737488355328 := by omega
          have hO : Below wr.heap.size wr (wr.alloc (.cells #[.slice A8 (len k + 70) c8] 23)) := (Below.refl _ _).alloc (Nat.le_refl _) _
          have HPB := Lib.hid (HP.out.grow hO)
          have HRow5 : Hid (Row (wr.alloc (.cells #[.slice A8 (len k + 70) c8] 23)) 23 1 (.slice A6 k c6) k ((List.range k).map mv)) := HPB.out.p.r6
          have HSrc5 : Hid (Src (wr.alloc (.cells #[.slice A8 (len k + 70) c8] 23)) (some ⟨wr.heap.size, 0, none⟩) 1 1 [.slice A8 (len k + 70) c8]) :=
            Src.block (cs := #[.slice A8 (len k + 70) c8]) (t := 23) (fr := (0, 0)) (heap_alloc_new wr _) rfl (by simp [Value.oneCell'])
          have e0 : decide (((L + 70 : Nat) : Int) < (L : Int) + 70) = false := by simp
          clear hO
          go_wp2_with (at_builtin; go_loud (refine inPlain rfl (wpo_row_append _ _ _ rfl j0 _ 24 Tryz.underlying50 hf0 hf1 hf2 hf3 rfl rfl HRow5.out _ 1 1 rfl [.slice A8 (len k + 70) c8] HSrc5.out HB63b HB47b ?_)); intro s7 w3 r3 k3 o3)
          go_roundw
          case rel => exact ⟨k + 1, by go_num, by omega, Lib.hid ⟨ov, updV mv k _, HPB.out.more r3 k3 o3⟩⟩
          case measure => simp [intOf]; omega
    · obtain rfl : k = N := by omega
      iterate 80 (first | (with_reducible refine at_seq3 20 ?_) | (with_reducible refine at_seq2 20 ?_) | (with_reducible refine at_seq 20 ?_) | go_values | go_skip | go_guarded | go_step | go_upon | go_back | go_simp)
      exact hnext.out _ _ _ _ _ _ ⟨rfl, rfl, rfl, rfl, rfl, trivial⟩ HR.out
end
section
variable (Q : Exit → Act → World → Prop) (G N VC : Nat) (VA : Option Addr) (v : Nat → Value) (len : Nat → Nat) (F : List Nat) (w0 : World)
set_option maxHeartbeats 4000000 in
/-- All marks stand. -/
theorem apInts_20 (s5 s6 : Value) (ov mv : Nat → Value) (a : Act) (X : World) (hN : N ≤ 300) (hlen : Hid (∀ i, i < N → len i ≤ 1000000)) (hB : Hid (P2 3 23 1 cInts G 1 (.slice VA N VC) N v len F w0 N N s5 s6 ov mv X))
    (hret : Hid (∀ a' X', FrN 183 [] [(2, .bool true)] a' → Bg 3 23 1 cInts G 1 (.slice VA N VC) N v len F w0 N X' → Q .ret a' X')) (ha : FrN 183 [] [(0, .pointer (some ⟨G, 0, none⟩)), (5, s5), (6, s6)] a) : (bgIntsT 20).wp Tryz.prog Q a X := by
  obtain ⟨U, rfl, e0, e5, e6, -⟩ := ha.openInts
  unfold FrInts
  simp only [e0, e5, e6]
  clear e0 e5 e6 ha
  show (Code.seq _ _).wp _ _ _ _
  obtain ⟨A5, C5, rfl, _⟩ := hB.out.r5.len
  obtain ⟨A6, C6, rfl, _⟩ := hB.out.r6.len
  go_wp2_with fail
  go_loopw [10] (fun n wr => ∃ k : Nat, n = .int .i64 k ∧ k ≤ N ∧ Hid (P2 3 23 1 cInts G 1 (.slice VA N VC) N v len F w0 N N (.slice A5 N C5) (.slice A6 N C6) ov mv wr)) (fun n _ => N - (intOf n).toNat)
  case atStart => exact ⟨0, rfl, Nat.zero_le _, hB⟩
  case round =>
    obtain ⟨k, rfl, hk, HR⟩ := hrel
    clear hB
    have h0 := HR.out.bg.hd
    have hG := HR.out.bg.lt
    by_cases hlt : k < N
    · obtain ⟨gV, cV, hVe, _, _⟩ := HR.out.bg.listAt hlt
      obtain ⟨g5, c5', h5e, _, _⟩ := row_listAt HR.out.r5 hlt
      obtain ⟨g6, c6', h6e, _, _⟩ := row_listAt HR.out.r6 hlt
      simp only [Value.slice.injEq, true_and] at hVe h5e h6e
      obtain ⟨rfl, rfl⟩ := hVe
      obtain ⟨rfl, rfl⟩ := h5e
      obtain ⟨rfl, rfl⟩ := h6e
      obtain ⟨A, cap, hv, _⟩ := (HR.out.bg.full hlt).len
      obtain ⟨Ao, co, hov, _⟩ := (HR.out.o5 k hlt).1.len
      obtain ⟨Am, cm, hmv, _⟩ := (HR.out.o6 k hlt).1.len
      obtain ⟨L, hL⟩ : ∃ L, len k = L := ⟨_, rfl⟩
      have hL1 := hlen.out k hlt
      rw [hL] at hv hov hmv hL1
      have HL := Lib.hid (And.intro hL (And.intro hv (And.intro hov hmv)))
      clear hL hv hov hmv h0 hG
      have H0 := HR
      clear HR
      go_wp2_with fail
      go_loopw [11] (fun i wr => ∃ j : Nat, i = .int .i64 j ∧ j ≤ L + 70 ∧ Hid (P2 3 23 1 cInts G 1 (.slice (some ⟨gV, 0, none⟩) N VC) N v len F w0 N N (.slice (some ⟨g5, 0, none⟩) N C5) (.slice (some ⟨g6, 0, none⟩) N C6) ov mv wr)) (fun i _ => L + 70 - (intOf i).toNat)
      case atStart => exact ⟨0, rfl, Nat.zero_le _, H0⟩
      case round =>
        obtain ⟨i, rfl, hj, HR⟩ := hrel
        clear H0
        have h0 := HR.out.bg.hd
        have hG := HR.out.bg.lt
        obtain ⟨gV', cV', hVe, hgV, qV⟩ := HR.out.bg.listAt hlt
        obtain ⟨g5', c5', h5e, hg5, q5⟩ := row_listAt HR.out.r5 hlt
        obtain ⟨g6', c6', h6e, hg6, q6⟩ := row_listAt HR.out.r6 hlt
        simp only [Value.slice.injEq, Option.some.injEq, Addr.mk.injEq, and_true, true_and] at hVe h5e h6e
        obtain ⟨rfl, rfl⟩ := hVe
        obtain ⟨rfl, rfl⟩ := h5e
        obtain ⟨rfl, rfl⟩ := h6e
        rw [HL.out.2.1] at qV
        rw [HL.out.2.2.1] at q5
        rw [HL.out.2.2.2] at q6
        by_cases hjl : i < L + 70
        · obtain ⟨gm, cm', hme, hgm, cm_⟩ := row_markAt (i := i) cInts_len (HR.out.o6 k hlt).1 (by rw [HL.out.1]; exact hjl)
          rw [HL.out.2.2.2, HL.out.1] at hme
          simp only [Value.slice.injEq, true_and] at hme
          obtain ⟨rfl, rfl⟩ := hme
          have cm0 : wr.cell? ⟨gm, i, none⟩ = some (.int .i64 (markB k i)) := by simpa [cInts] using cm_ 0 (by omega)
          have hi2 : i ≤ 2000000 := by omega
          have hk3 : k ≤ 1000 := by omega
          clear cm_
          by_cases hc1 : i < L
          · obtain ⟨gv, cv', hve, hgv, cv_⟩ := row_markAt (i := i) cInts_len (HR.out.bg.full hlt) (by rw [HL.out.1]; exact hc1)
            rw [HL.out.2.1, HL.out.1] at hve
            simp only [Value.slice.injEq, true_and] at hve
            obtain ⟨rfl, rfl⟩ := hve
            have cv0 : wr.cell? ⟨gv, i, none⟩ = some (.int .i64 (markB k i)) := by simpa [cInts] using cv_ 0 (by omega)
            have e1 : ((i : Int) == (L : Int)) = false := beq_eq_false_iff_ne.2 (by omega)
            clear cv_
            go_wp2_with ((go_at_call 24; refine (num_is k i hk3 hi2 _).mono ?_; rintro e w5 ⟨rfl, rfl⟩))
            go_roundw
            case rel => exact ⟨i + 1, by go_num, by omega, Lib.hid HR.out⟩
            case measure => simp [intOf]; omega
          · by_cases hc2 : i = L
            · obtain ⟨go, co', hoe, hgo, co_⟩ := row_markAt (i := i) cInts_len (HR.out.o5 k hlt).1 (by rw [HL.out.1]; omega)
              rw [HL.out.2.2.1, HL.out.1] at hoe
              simp only [Value.slice.injEq, true_and] at hoe
              obtain ⟨rfl, rfl⟩ := hoe
              have co0 : wr.cell? ⟨go, i, none⟩ = some (.int .i64 (markB k i)) := by simpa [cInts] using co_ 0 (by omega)
              have e1 : ((i : Int) == (L : Int)) = true := beq_iff_eq.2 (by omega)
              have hc3 : (L : Int) ≤ (i : Int) := by omega
              have HC2 := Lib.hid hc2
              have hc4 : (i : Int) < (L : Int) + 1 := by omega
              clear co_ hc2
              go_wp2_with ((go_at_call 24; refine (num_is k i hk3 hi2 _).mono ?_; rintro e w5 ⟨rfl, rfl⟩))
              go_roundw
              case rel => exact ⟨i + 1, by go_num, by omega, Lib.hid HR.out⟩
              case measure => simp [intOf]; omega
            · have e1 : ((i : Int) == (L : Int)) = false := beq_eq_false_iff_ne.2 (by omega)
              have hc3 : (L : Int) ≤ (i : Int) := by omega
              go_wp2_with ((go_at_call 24; refine (num_is k i hk3 hi2 _).mono ?_; rintro e w5 ⟨rfl, rfl⟩))
              go_roundw
              case rel => exact ⟨i + 1, by go_num, by omega, Lib.hid HR.out⟩
              case measure => simp [intOf]; omega
        · have hjL : i = L + 70 := by omega
          have hc3 : (L : Int) + 70 ≤ (i : Int) := by omega
          have HJL := Lib.hid hjL
          clear hjL
          go_wp2_with fail
          go_roundw
          case rel => exact ⟨k + 1, by go_num, by omega, HR⟩
          case measure => simp [intOf]; omega
    · obtain rfl : k = N := by omega
      repeat (first
        | exact hret.out _ _ ⟨rfl, rfl, rfl, trivial⟩ HR.out.bg
        | go_values | go_skip | go_guarded | go_step | go_upon | go_back)
end
/-- A bag's lists of this kind: all marks stand; what lies elsewhere is as it was. -/
theorem apartInts_is (G N VC : Nat) (VA : Option Addr) (v : Nat → Value) (len : Nat → Nat) (F : List Nat) (w : World) (hN : N ≤ 300) (hlen : Hid (∀ i, i < N → len i ≤ 1000000)) (hB : Hid (Bg 3 23 1 cInts G 1 (.slice VA N VC) N v len F w 0 w)) :
    Calls Tryz.prog 41 #[.pointer (some ⟨G, 0, none⟩)] w fun e w' => e = .returned (.bool true) ∧ Bg 3 23 1 cInts G 1 (.slice VA N VC) N v len F w N w' := by
  go_enter Tryz.func41, Tryz.ntmps41
  refine (show ∀ a, FrN 183 [] [(0, .pointer (some ⟨G, 0, none⟩))] a → (bgIntsT 0).wp Tryz.prog _ a w from ?_) _ ⟨rfl, rfl, rfl, trivial⟩
  intro a ha
  obtain ⟨U, rfl, e0, -⟩ := ha.openInts
  unfold FrInts
  simp only [e0]
  clear e0 ha
  show (Code.seq _ _).wp _ _ _ _
  iterate 80 (first | (with_reducible refine at_seq3 1 ?_) | (with_reducible refine at_seq2 1 ?_) | (with_reducible refine at_seq 1 ?_) | go_values | go_skip | go_guarded | go_step | go_upon | go_back | go_simp)
  refine apInts_1 _ G N VC VA v len F w _ w hN hlen hB (Lib.hid fun a8 X8 hf8 hb8 => ?_) ⟨rfl, rfl, rfl, trivial⟩
  refine apInts_8 _ G N VC VA v len F w a8 X8 hN hlen (Lib.hid hb8) (Lib.hid fun a9 X9 s5 s6 ov mv hf9 hb9 => ?_) hf8
  refine apInts_20 _ G N VC VA v len F w s5 s6 ov mv a9 X9 hN hlen (Lib.hid hb9) (Lib.hid fun a' X hf hb => ?_) hf9
  obtain ⟨hsz, hdf, h2, _⟩ := hf
  have g2 : a'.tmps[2]'(by rw [hsz]; omega) = .bool true := (Array.getElem?_eq_some_iff.1 h2).2
  show bodyPost _ _ _ .ret a' X
  exact bodyPost_ret (v := .bool true) (by simp only [results, Tryz.results41]; go_simp) hdf ⟨rfl, hb⟩
end Go.Proofs.YtkonfogebepccaaGreatDoor
