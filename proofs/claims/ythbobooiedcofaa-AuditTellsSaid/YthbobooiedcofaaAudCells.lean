/-
  audit.Audit's inner functions: the agents, the cells.
-/
import Derived.Test.YthbobooiedcofaaAudSee
import Derived.Test.YthbobooiedcofaaAgentsN
import Derived.Test.YthbobooiedcofaaRef02
/-
  audit.Audit's inner functions: the free ports, the agents, the cells.
-/
namespace Go.Proofs.Ythbobooiedcofaa
open Go.RowKit
attribute [local go_sem] cell_set
attribute [local go_sem] Oper.semAt_some
set_option maxRecDepth 100000
set_option linter.unusedVariables false

theorem firstBad_prefix {S : Wir} {l r : List Pt} {p : Pt} (h : l <+: r) (hb : S.firstBad l = some p) : S.firstBad r = some p := by
  obtain ⟨t, rfl⟩ := h
  exact S.firstBad_pre hb
theorem slotsOf_prefix (c : Int) {k n : Nat} (h : k ≤ n) : Wir.slotsOf c k <+: Wir.slotsOf c n := by
  unfold Wir.slotsOf
  have : List.range k <+: List.range n := by
    refine ⟨(List.range (n - k)).map (k + ·), ?_⟩
    rw [← List.range_add]; congr 1; omega
  exact this.map _
/-- What became of the boxes when a list of ports was gone through. -/
def AuRes (S : Wir) (w : World) (br bt be : Nat) (c f x o : Int) (p : Pt) (e : Int) (l : List Pt) (W : World) : Prop :=
  (S.firstBad l = none ∧ Au w br bt be c f (x + (S.nWire l : Int)) (o + (S.nOpen l : Int)) p e W) ∨ (∃ q, S.firstBad l = some q ∧ ∃ x' o', Au w br bt be c f x' o' q 42 W)
section
variable {S : Wir} {w : World} {br bt be : Nat} {c f x o : Int} {p : Pt} {e : Int} {l : List Pt} {W W' : World}
theorem step_open (q : Pt) (hn : S.firstBad l = none) (ho : S.isOpen q = true) : S.firstBad (l ++ [q]) = none ∧ (S.nWire (l ++ [q]) = S.nWire l) ∧ S.nOpen (l ++ [q]) = S.nOpen l + 1 := by
  have hw : S.wrong q = false := by simp [Wir.wrong, ho]
  exact ⟨by rw [S.firstBad_snoc _ _ hn, if_neg (by simp [hw])], by rw [S.nWire_snoc, if_pos ho]; rfl, by rw [S.nOpen_snoc, if_pos ho]⟩
theorem step_ok (q : Pt) (hn : S.firstBad l = none) (ho : S.isOpen q = false) (hb : S.isBad q = false) : S.firstBad (l ++ [q]) = none ∧ (S.nWire (l ++ [q]) = S.nWire l + 1) ∧ S.nOpen (l ++ [q]) = S.nOpen l := by
  have hw : S.wrong q = false := by simp [Wir.wrong, ho, hb]
  exact ⟨by rw [S.firstBad_snoc _ _ hn, if_neg (by simp [hw])], by rw [S.nWire_snoc, if_neg (by simp [ho])], by rw [S.nOpen_snoc, if_neg (by simp [ho])]; rfl⟩
theorem step_bad (q : Pt) (hn : S.firstBad l = none) (ho : S.isOpen q = false) (hb : S.isBad q = true) : S.firstBad (l ++ [q]) = some q := by
  have hw : S.wrong q = true := by simp [Wir.wrong, ho, hb]
  rw [S.firstBad_snoc _ _ hn, if_pos hw]
end
section
variable (bw bs B A : Nat) (S : Wir) (FA : List Nat) (br bt be : Nat) (c f x o : Int) (p : Pt) (e0 : Int) (w W : World)
set_option maxHeartbeats 2000000 in
theorem au_free (hb : 0 ≤ x ∧ x ≤ 1000 ∧ 0 ≤ o ∧ o ≤ 1000) (hs : W.heap[bs]? = some (.cells #[.func (.func 83) #[] #[.pointer (some ⟨bw, 0, none⟩), .pointer (some ⟨br, 0, none⟩), .pointer (some ⟨bt, 0, none⟩), .pointer (some ⟨be, 0, none⟩)]] 140 (0, 0))) (hsn : bs ∉ [br, bt, be]) (hB : AuB w bw B A S FA br bt be) (h : Au w br bt be c f x o p e0 W) :
    Calls Try.prog 85 #[.pointer (some ⟨bw, 0, none⟩), .pointer (some ⟨bs, 0, none⟩)] W fun e W' => (∃ r, e = .returned r) ∧ AuRes S w br bt be c f x o p e0 (Wir.slotsOf (-1) S.P.length) W' ∧ Kp [br, bt, be] W W' := by
  obtain ⟨n, hn⟩ : ∃ n, S.P.length = n := ⟨_, rfl⟩
  have hB2 := h.base hB
  have hn64 : n ≤ 64 := by rw [← hn]; exact hB2.g.ok.p
  have c0 : W.cell? ⟨bw, 0, none⟩ = some (.pointer (some ⟨B, 0, none⟩)) := by simp [World.cell?, hB2.p]
  have HB := Lib.hid hB
  have HN := Lib.hid hn
  have HS := Lib.hid (And.intro hs hsn)
  have HG := Lib.hid hB2.g
  have H0 : Hid (S.firstBad (Wir.slotsOf (-1) 0) = none ∧ Au w br bt be c f (x + (S.nWire (Wir.slotsOf (-1) 0) : Int)) (o + (S.nOpen (Wir.slotsOf (-1) 0) : Int)) p e0 W ∧ Kp [br, bt, be] W W) := ⟨rfl, by simpa [Wir.slotsOf, Wir.nWire, Wir.nOpen] using h, Kp.refl _ _⟩
  rw [hn]
  have hwl := heap_lt hB2.p
  clear hB hn hs hsn hB2 h
  go_enter Try.func85, Try.ntmps85
  go_wp2_with fail
  refine (wi_free B A S FA W HG.out).mono ?_
  rintro e w1 ⟨rfl, rfl⟩
  rw [HN.out]
  clear c0
  simp only []
  go_wp2_with fail
  go_loopw [5] (fun i wr => ∃ k : Nat, i = .int .i64 k ∧ k ≤ n ∧ Hid (S.firstBad (Wir.slotsOf (-1) k) = none ∧ Au w br bt be c f (x + (S.nWire (Wir.slotsOf (-1) k) : Int)) (o + (S.nOpen (Wir.slotsOf (-1) k) : Int)) p e0 wr ∧ Kp [br, bt, be] W wr)) (fun i _ => n - (intOf i).toNat)
  case atStart => exact ⟨0, rfl, Nat.zero_le _, H0⟩
  case round =>
    obtain ⟨k, rfl, hk, HR⟩ := hrel
    clear H0
    by_cases hlt : k < n
    · have hs1 := (HR.out.2.2.block bs (heap_lt HS.out.1) HS.out.2).trans HS.out.1
      have s0 : wr.cell? ⟨bs, 0, none⟩ = some (.func (.func 83) #[] #[.pointer (some ⟨bw, 0, none⟩), .pointer (some ⟨br, 0, none⟩), .pointer (some ⟨bt, 0, none⟩), .pointer (some ⟨be, 0, none⟩)]) := by simp [World.cell?, hs1]
      have sl := heap_lt hs1
      have w1 := S.nWire_le (Wir.slotsOf (-1) k)
      have w2 := S.nOpen_le (Wir.slotsOf (-1) k)
      rw [Wir.slotsOf_len] at w1 w2
      have hsn := Wir.slotsOf_succ (-1) k
      obtain ⟨l, hl⟩ : ∃ l, Wir.slotsOf (-1) k = l := ⟨_, rfl⟩
      rw [hl] at HR hsn w1 w2
      have HSn := Lib.hid hsn
      clear hs1 hsn hl
      cases ho : S.isOpen (-1, (k : Int))
      · cases hbd : S.isBad (-1, (k : Int))
        · have hst := step_ok (-1, (k : Int)) HR.out.1 ho hbd
          rw [← HSn.out] at hst
          have HSt := Lib.hid hst
          clear hst
          go_wp2_with (go_at_call 83; refine (au_see_ok bw B A S FA br bt be c f (x + (S.nWire l : Int)) (o + (S.nOpen l : Int)) p e0 w wr (-1) (k : Int) ho hbd (by omega) HB.out HR.out.2.1).mono ?_; rintro e w3 ⟨rfl, ha3, hk3⟩
                       have H3 := Lib.hid (And.intro ha3 (HR.out.2.2.tr hk3))
                       clear ha3 hk3)
          go_roundw
          case measure => simp [intOf]; omega
          case rel => exact ⟨k + 1, by go_num, by omega, HSt.out.1, by rw [HSt.out.2.1, HSt.out.2.2]; simpa [Int.add_assoc] using H3.out.1, H3.out.2⟩
        · have hst := step_bad (-1, (k : Int)) HR.out.1 ho hbd
          rw [← HSn.out] at hst
          have HSt := Lib.hid hst
          clear hst
          go_wp2_with (go_at_call 83; refine (au_see_bad bw B A S FA br bt be c f (x + (S.nWire l : Int)) (o + (S.nOpen l : Int)) p e0 w wr (-1) (k : Int) ho hbd HB.out HR.out.2.1).mono ?_; rintro e w3 ⟨rfl, ha3, hk3⟩
                       have H3 := Lib.hid (And.intro ha3 (HR.out.2.2.tr hk3))
                       clear ha3 hk3)
          have hf := firstBad_prefix (slotsOf_prefix (-1) (show k + 1 ≤ n by omega)) HSt.out
          exact bodyPost_ret (results_none rfl _ _ _) rfl ⟨⟨_, rfl⟩, Or.inr ⟨(-1, (k : Int)), hf, _, _, H3.out.1⟩, H3.out.2⟩
      · have hst := step_open (-1, (k : Int)) HR.out.1 ho
        rw [← HSn.out] at hst
        have HSt := Lib.hid hst
        clear hst
        go_wp2_with (go_at_call 83; refine (au_see_open bw B A S FA br bt be c f (x + (S.nWire l : Int)) (o + (S.nOpen l : Int)) p e0 w wr (-1) (k : Int) ho (by omega) HB.out HR.out.2.1).mono ?_; rintro e w3 ⟨rfl, ha3, hk3⟩
                     have H3 := Lib.hid (And.intro ha3 (HR.out.2.2.tr hk3))
                     clear ha3 hk3)
        go_roundw
        case measure => simp [intOf]; omega
        case rel => exact ⟨k + 1, by go_num, by omega, HSt.out.1, by rw [HSt.out.2.1, HSt.out.2.2]; simpa [Int.add_assoc] using H3.out.1, H3.out.2⟩
    · obtain rfl : k = n := by omega
      go_wp2_with fail
      exact bodyPost_end (results_none rfl _ _ _) rfl ⟨⟨_, rfl⟩, .inl ⟨HR.out.1, HR.out.2.1⟩, HR.out.2.2⟩
end
end Go.Proofs.Ythbobooiedcofaa
namespace Go.Proofs.Ythbobooiedcofaa
open Go.RowKit
attribute [local go_sem] cell_set
attribute [local go_sem] Oper.semAt_some
set_option maxRecDepth 100000
set_option linter.unusedVariables false

/-- Au, anew from a later world. -/
theorem Au.re {w w1 W : World} {br bt be : Nat} {c f x o : Int} {p : Pt} {e : Int} {c' f' x' o' : Int} {p' : Pt} {e' : Int} (h0 : Au w br bt be c' f' x' o' p' e' w1) (h : Au w1 br bt be c f x o p e W) : Au w br bt be c f x o p e W := ⟨h0.k.tr h.k, h.r, h.t, h.e⟩
theorem Au.self {w W : World} {br bt be : Nat} {c f x o : Int} {p : Pt} {e : Int} (h : Au w br bt be c f x o p e W) : Au W br bt be c f x o p e W := ⟨Kp.refl _ _, h.r, h.t, h.e⟩
theorem Au.lts {w W : World} {br bt be : Nat} {c f x o : Int} {p : Pt} {e : Int} (h : Au w br bt be c f x o p e W) : br < W.heap.size ∧ bt < W.heap.size ∧ be < W.heap.size := ⟨heap_lt h.r, heap_lt h.t, heap_lt h.e⟩
theorem Au.cl {w W : World} {br bt be : Nat} {c f x o : Int} {p : Pt} {e : Int} (h : Au w br bt be c f x o p e W) : ∀ b ∈ [br, bt, be], ∃ c t, W.heap[b]? = some (.cells c t (0, 0)) := by
  intro b hb
  simp only [List.mem_cons, List.not_mem_nil, or_false] at hb
  rcases hb with rfl | rfl | rfl
  · exact ⟨_, _, h.r⟩
  · exact ⟨_, _, h.t⟩
  · exact ⟨_, _, h.e⟩
def auActA (a : Act) (x : Nat × Int) : Act := { tmps := (((a.tmps.setIfInBounds 11 (.int .i64 (x.1 : Int))).setIfInBounds 12 (.int .i64 x.2)).setIfInBounds 4 (.int .i64 (x.1 : Int))).setIfInBounds 5 (.int .i64 x.2), defers := [] }
theorem agBad_snoc (S : Wir) (ps : Int → Int) (l : List (Nat × Int)) (x : Nat × Int) (h : S.agBad ps l = none) : S.agBad ps (l ++ [x]) = if ps x.2 ≠ S.A.agA (x.1 : Int) + 1 then some x else none := by
  unfold Wir.agBad at h ⊢
  rw [List.find?_append, h]
  by_cases hx : ps x.2 ≠ S.A.agA (x.1 : Int) + 1
  · rw [if_pos hx, List.find?_cons_of_pos (by simpa using hx)]; rfl
  · rw [if_neg hx, List.find?_cons_of_neg (by simpa using hx)]; rfl
theorem agBad_pre (S : Wir) (ps : Int → Int) {l r : List (Nat × Int)} {x : Nat × Int} (h : S.agBad ps l = some x) : S.agBad ps (l ++ r) = some x := by
  unfold Wir.agBad at h ⊢
  rw [List.find?_append, h]; rfl
/-- What became of the boxes when the agents were looked at. -/
def AgRes (S : Wir) (ps : Int → Int) (w : World) (br bt be : Nat) (c f x o : Int) (l : List (Nat × Int)) (p : Pt) (e : Int) (W : World) : Prop :=
  (S.agBad ps l = none ∧ Au w br bt be c f x o p e W) ∨ (∃ q, S.agBad ps l = some q ∧ Au w br bt be c f x o ((q.1 : Int), 0) 20 W)
section
variable (ba B A bsg : Nat) (S : Wir) (FA : List Nat) (br bt be : Nat) (c f x o : Int) (p : Pt) (e0 : Int) (As : Option Addr) (n cap : Nat) (L : List (ByteArray × Int)) (w : World)
set_option maxHeartbeats 4000000 in
theorem au_agents (hn : n = L.length) (hl : L.length ≤ maxLen) (HL : Hid (AgRd w As L)) (hs : Hid (SigOk L)) (h0 : w.heap[ba]? = some (.cells #[.pointer (some ⟨A, 0, none⟩)] 23 (0, 0))) (h1 : w.heap[bsg]? = some (.cells #[.slice As n cap] 63 (0, 0)))
    (hg : WG w B A S FA) (hne : ∀ b ∈ B :: FA, b ∉ [br, bt, be]) (hag : ∀ b off, As = some ⟨b, off, none⟩ → b ∉ [br, bt, be]) (h : Au w br bt be c f x o p e0 w) :
    Calls Try.prog 82 #[.pointer (some ⟨ba, 0, none⟩), .pointer (some ⟨bsg, 0, none⟩), .pointer (some ⟨bt, 0, none⟩), .pointer (some ⟨be, 0, none⟩)] w fun e W' => (∃ r, e = .returned r) ∧ AgRes S (portsN L) w br bt be c f x o (S.A.upto S.A.cells.length) p e0 W' ∧ Kp [br, bt, be] w W' := by
  subst hn
  have HA := Lib.hid h
  have HG := Lib.hid (And.intro hg hne)
  have H01 := Lib.hid (And.intro h0 h1)
  have hn0 : ba ∉ [br, bt, be] := by
    simp only [List.mem_cons, List.not_mem_nil, or_false, not_or]
    exact ⟨ty_ne h0 h.r (by decide), ty_ne h0 h.t (by decide), ty_ne h0 h.e (by decide)⟩
  have hn1 : bsg ∉ [br, bt, be] := by
    simp only [List.mem_cons, List.not_mem_nil, or_false, not_or]
    exact ⟨ty_ne h1 h.r (by decide), ty_ne h1 h.t (by decide), ty_ne h1 h.e (by decide)⟩
  have HNe := Lib.hid (And.intro hn0 (And.intro hn1 hag))
  have a0 : w.cell? ⟨ba, 0, none⟩ = some (.pointer (some ⟨A, 0, none⟩)) := by simp [World.cell?, h0]
  have al := heap_lt h0
  have sgl := heap_lt h1
  have hul := S.A.upto_len S.A.cells.length
  have hm2 := hg.ok.a.most2
  have hcl := hg.ok.a.len
  have hu4 : (S.A.upto S.A.cells.length).length ≤ 4096 := by omega
  obtain ⟨U, hU⟩ : ∃ U, S.A.upto S.A.cells.length = U := ⟨_, rfl⟩
  rw [hU] at hu4 ⊢
  have HU := Lib.hid hU
  clear hul hm2 hcl hU h hg hne h0 h1 hn0 hn1 hag
  refine (callsIn_wide (n := 5)).1 (callsIn_of_wp_marks Try.func82 rfl trivial (wpIn_wide.2 ?_) rfl)
  simp only [Try.ntmps82, List.size_toArray, List.length_cons, List.length_nil, Nat.reduceAdd, Nat.reduceSub, Array.replicate_succ, Array.replicate_zero, List.push_toArray, List.append_toArray, List.nil_append, List.cons_append]
  go_wp2_with (go_at_call 74; refine (ar_all A S.A FA w HG.out.1.pa).mono ?_; rintro e w1 ⟨v, rfl, hb1, bx⟩; rw [HU.out] at bx)
  clear a0
  have hz1 := hb1.size
  have hbl := bx.lt
  have hbo : ∀ b ∈ w.heap.size :: ownB v, w.heap.size ≤ b ∧ b < w1.heap.size := fun b hb => by
    simp only [List.mem_cons] at hb
    rcases hb with rfl | hb
    · exact ⟨Nat.le_refl _, hbl⟩
    · exact ⟨bx.own b hb, bx.row.lt b hb⟩
  have HBO := Lib.hid hbo
  have HA1 := Lib.hid (HA.out.below hb1).self
  have hlts := HA.out.lts
  have HLT : Hid ((br < w1.heap.size ∧ bt < w1.heap.size ∧ be < w1.heap.size) ∧ ∀ b ∈ [br, bt, be], b < w.heap.size) := ⟨⟨by omega, by omega, by omega⟩, by simp; omega⟩
  have HB1 := Lib.hid hb1
  have HG1 := Lib.hid (And.intro (HG.out.1.below hb1) HG.out.2)
  have H1 : Hid (w1.heap[ba]? = some (.cells #[.pointer (some ⟨A, 0, none⟩)] 23 (0, 0)) ∧ w1.heap[bsg]? = some (.cells #[.slice As L.length cap] 63 (0, 0)) ∧ AgRd w1 As L) := ⟨(hb1.block _ al).trans H01.out.1, (hb1.block _ sgl).trans H01.out.2, HL.out.below hb1⟩
  clear hlts hb1
  refine rf rfl (enters_of Try.func117 (by kernel_rfl) rfl) (seq_stops 4 w.heap.size w.heap.size v U (by omega) _ bx) (fun b hb => (HBO.out b hb).2) (fun _ => rfl)
    (fun pre W => S.agBad (portsN L) pre = none ∧ Au w1 br bt be c f x o p e0 W)
    (fun cd pre W => cd = .ret ∧ ∃ q, S.agBad (portsN L) pre = some q ∧ Au w1 br bt be c f x o ((q.1 : Int), 0) 20 W)
    (fun s W1 W2 row h hg hr => ⟨h.1, h.2.grown hg HLT.out.1 (Nat.le_refl _) hr⟩)
    (fun cd s W1 W2 row h hg hr => by
      obtain ⟨h1, q, h2, h3⟩ := h
      exact ⟨h1, q, h2, h3.grown hg HLT.out.1 (Nat.le_refl _) hr⟩)
    ⟨rfl, HA1.out⟩ auActA ?assign ?body ?done ?stop
  case assign =>
    intro l x W K hK
    gi_wp2
    simpa [auActA] using hK
  case stop =>
    rintro D cd pre W hD ⟨k, hk, hpre⟩ ⟨rfl, q, hq, hau⟩ hK
    have HK := Lib.hid hK
    have hqq : S.agBad (portsN L) U = some q := by
      rw [← List.take_append_drop k U, ← hpre]
      exact agBad_pre S _ hq
    have HF : Hid (AgRes S (portsN L) w br bt be c f x o U p e0 (W.putObj D (.deferred none)) ∧ Kp [br, bt, be] w (W.putObj D (.deferred none))) := by
      have hDb : ∀ b ∈ [br, bt, be], b ≠ D := fun b hb e => by have := HLT.out.2 b hb; omega
      have hkk : Kp [br, bt, be] w (W.putObj D (.deferred none)) := by
        have h1 := (Kp.of_below (F := [br, bt, be]) HB1.out).tr hau.k
        exact ⟨h1.os, h1.tape, h1.output, by simpa using h1.size, fun b hb hn => (World.putObj_heap_other (by omega)).trans (h1.block b hb hn)⟩
      refine ⟨.inr ⟨q, hqq, hkk, (World.putObj_heap_other (hDb br (by simp))).trans hau.r, (World.putObj_heap_other (hDb bt (by simp))).trans hau.t, (World.putObj_heap_other (hDb be (by simp))).trans hau.e⟩, hkk⟩
    clear hau hK
    go_wp2_with fail
    exact leaveMk HK.out ⟨_, results_none rfl _ _ _, ⟨_, rfl⟩, HF.out⟩
  case done =>
    rintro D ys W hD rfl ⟨hq, hau⟩ hK
    have HK := Lib.hid hK
    have HF : Hid (AgRes S (portsN L) w br bt be c f x o ys p e0 (W.putObj D (.deferred none)) ∧ Kp [br, bt, be] w (W.putObj D (.deferred none))) := by
      have hDb : ∀ b ∈ [br, bt, be], b ≠ D := fun b hb e => by have := HLT.out.2 b hb; omega
      have hkk : Kp [br, bt, be] w (W.putObj D (.deferred none)) := by
        have h1 := (Kp.of_below (F := [br, bt, be]) HB1.out).tr hau.k
        exact ⟨h1.os, h1.tape, h1.output, by simpa using h1.size, fun b hb hn => (World.putObj_heap_other (by omega)).trans (h1.block b hb hn)⟩
      refine ⟨.inl ⟨hq, hkk, (World.putObj_heap_other (hDb br (by simp))).trans hau.r, (World.putObj_heap_other (hDb bt (by simp))).trans hau.t, (World.putObj_heap_other (hDb be (by simp))).trans hau.e⟩, hkk⟩
    clear hau hK
    go_wp2_with fail
    exact leaveMk HK.out ⟨_, results_none rfl _ _ _, ⟨_, rfl⟩, HF.out⟩
  case body =>
    rintro l pre ⟨cc, ag⟩ W ⟨hpre, hau⟩ hlen
    have HAU := Lib.hid hau
    have h0 := (hau.k.block ba (heap_lt H1.out.1) HNe.out.1).trans H1.out.1
    have h1 := (hau.k.block bsg (heap_lt H1.out.2.1) HNe.out.2.1).trans H1.out.2.1
    have a0 : W.cell? ⟨ba, 0, none⟩ = some (.pointer (some ⟨A, 0, none⟩)) := by simp [World.cell?, h0]
    have s0 : W.cell? ⟨bsg, 0, none⟩ = some (.slice As L.length cap) := by simp [World.cell?, h1]
    have a1 := heap_lt h0
    have s1 := heap_lt h1
    have hagl : AgRd W As L := fun i hi => by
      obtain ⟨b, off, e, hb, x0, x1⟩ := H1.out.2.2 i hi
      have hn := HNe.out.2.2 b off e
      exact ⟨b, off, e, Nat.lt_of_lt_of_le hb hau.k.size, (hau.k.cell (p := ⟨b, _, none⟩) hb hn).trans x0, (hau.k.cell (p := ⟨b, _, none⟩) hb hn).trans x1⟩
    have HL2 := Lib.hid hagl
    have hpk := hs.out.ports ag
    have HPK := Lib.hid hpk
    have hsn := agBad_snoc S (portsN L) pre (cc, ag) hpre
    have HSN := Lib.hid hsn
    obtain ⟨ar, har⟩ : ∃ ar, S.A.agA (cc : Int) = ar := ⟨_, rfl⟩
    have hsl := slots_le HG.out.1.ok (cc : Int)
    rw [har] at hsl
    have HAR := Lib.hid har
    obtain ⟨m, rfl⟩ := Int.eq_ofNat_of_zero_le hsl.1
    have hm6 : m ≤ 6 := by omega
    have ea : IntKind.i64.wrap ((m : Int) + 1) = (m : Int) + 1 := IntWalk.i64_in _ (by omega)
    obtain ⟨pn, hpn⟩ : ∃ pn, portsN L ag = pn := ⟨_, rfl⟩
    have HPN := Lib.hid hpn
    clear hau h0 h1 hagl hpk hsn har hsl hpn hpre hlen
    simp only [auActA]
    gi_wp2_with fail
    refine ⟨trivial, CallsIn.inRound l (callsIn_wide.2 ((ar_agent A S.A FA (cc : Int) W (HG1.out.1.kp HAU.out.k HG1.out.2).pa).mono ?_))⟩
    rintro e w2 ⟨rfl, hb2⟩
    rw [HAR.out]
    generalize (if (S.A.cell (cc : Int)).isSome = true then (0 : Int) else 41) = ee
    have H2 := Lib.hid (And.intro (HAU.out.below hb2) (And.intro (HL2.out.below hb2) (Kp.of_below (F := [br, bt, be]) hb2)))
    have s0' : w2.cell? ⟨bsg, 0, none⟩ = some (.slice As L.length cap) := (hb2.cell (p := ⟨bsg, 0, none⟩) s1).trans s0
    have s1' : bsg < w2.heap.size := Nat.lt_of_lt_of_le s1 hb2.size
    clear hb2 a0 s0 a1 s1
    simp only []
    gi_wp2_with fail
    refine ⟨trivial, CallsIn.inRound l (callsIn_wide.2 ((ports_any As _ cap L ag _ rfl hl (Lib.hid H2.out.2.1) HPK.out.2.2).mono ?_))⟩
    rintro e w3 ⟨rfl, rfl⟩
    rw [HPN.out]
    clear s0' s1'
    by_cases hb : pn = (m : Int) + 1
    · have hbb : (pn != (m : Int) + 1) = false := by simpa using hb
      have HBB := Lib.hid hb
      clear hb
      simp only []
      gi_wp2_with fail
      refine ⟨(KeepsOthers.ofKp H2.out.2.2 HAU.out.cl).from _, ⟨H2.out.2.2.size, fun b hb => H2.out.2.2.block b (by have := (HBO.out b hb).2; have := HAU.out.k.size; omega) (fun hm => by have := (HBO.out b hb).1; have := HLT.out.2 b hm; omega)⟩, ?_, H2.out.1⟩
      rw [HSN.out, if_neg]
      simp only [HPN.out, HAR.out, HBB.out]
      simp
    · have hbb : (pn != (m : Int) + 1) = true := by simpa using hb
      have HBB := Lib.hid hb
      clear hb
      have rt := H2.out.1.t
      have re := H2.out.1.e
      have t2 : w2.cell? ⟨bt, 0, none⟩ = some (.int .i64 p.1) := by simp [World.cell?, rt]
      have t3 : w2.cell? ⟨bt, 1, none⟩ = some (.int .i64 p.2) := by simp [World.cell?, rt]
      have t4 : w2.frozen? ⟨bt, 0, none⟩ = false := by simp [World.frozen?, rt]
      have t5 : w2.frozen? ⟨bt, 1, none⟩ = false := by simp [World.frozen?, rt]
      have e2 : w2.cell? ⟨be, 0, none⟩ = some (.int .i64 e0) := by simp [World.cell?, re]
      have e3 : w2.frozen? ⟨be, 0, none⟩ = false := by simp [World.frozen?, re]
      have tl := heap_lt rt
      have el := heap_lt re
      have nn := H2.out.1.ne.2.2
      clear rt re
      simp only []
      gi_wp2_with fail
      have hkk : Kp [br, bt, be] W (((w2.setCell ⟨bt, 0, none⟩ (.int .i64 (cc : Int))).setCell ⟨bt, 1, none⟩ (.int .i64 0)).setCell ⟨be, 0, none⟩ (.int .i64 20)) := ((H2.out.2.2.setCell (p := ⟨bt, 0, none⟩) (.inl (by simp)) _).setCell (p := ⟨bt, 1, none⟩) (.inl (by simp)) _).setCell (p := ⟨be, 0, none⟩) (.inl (by simp)) _
      refine ⟨(KeepsOthers.ofKp hkk HAU.out.cl).from _, rfl, (cc, ag), ?_, H2.out.1.bad1 ((cc : Int), 0) 20⟩
      rw [HSN.out, if_pos]
      simp only [HPN.out, HAR.out]
      exact HBB.out
end
end Go.Proofs.Ythbobooiedcofaa
