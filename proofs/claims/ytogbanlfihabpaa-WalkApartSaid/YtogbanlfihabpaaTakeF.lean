/-
  walk.Parts's 'take': its contract.
-/
import Derived.Test.YtogbanlfihabpaaTakeD
import Derived.Deep.LoopGhost
/-
  walk.Parts's 'take': from the sort to its end.
-/
namespace Go.Proofs.Ytogbanlfihabpaa
open Go.RowKit
attribute [local go_sem] cell_set
attribute [local go_sem] Oper.semAt_some
set_option maxRecDepth 100000
set_option linter.unusedVariables false
section
variable (Q : Exit → Act → World → Prop) (w1 : World) (bl bw bo bf P m go gf gl cl bn b5 Dl : Nat) (A : Option Addr) (cap : Nat) (L : List (ByteArray × Int)) (VA VB : Option Addr) (ca cb : Nat) (cells : List Int) (f : Nat) (W : List (Pt × Pt)) (n : Nat)
theorem tkf_sorted {w1 X Y : World} {bl bw bo bf P go gf n f gl cl bn b5 Dl : Nat} {p : Pt} {ofs frs : List Int} {qs : List PV} {a : Value} {xs xs' : List Int} (h : TkF w1 X bl bw bo bf P go gf n f gl cl bn b5 Dl p ofs frs qs a (.slice none 0 0) xs []) (k : Kp (ownB a) X Y) (r : Row Y 3 1 a xs'.length (ivals xs')) :
    TkF w1 Y bl bw bo bf P go gf n f gl cl bn b5 Dl p ofs frs qs a (.slice none 0 0) xs' [] := by
  have hla : a ∈ pvCells (qs ++ [(⟨a, .slice none 0 0, xs, []⟩ : PV)]) := by rw [pvCells_snoc]; simp
  obtain ⟨zs, ra⟩ := h.st.urow hla
  have n5 : ∀ (y : Nat) (o : Obj), X.heap[y]? = some o → (∀ ca, o ≠ .cells ca 3 (0, 0)) → Y.heap[y]? = some o := fun y o hy h1 => by
    refine (k.block y (heap_lt hy) (fun hm => ?_)).trans hy
    obtain ⟨cu, e9⟩ := row_block ra y hm
    rw [e9] at hy; injection hy with hy; exact h1 _ hy.symm
  have e : pvCells (qs ++ [(⟨a, .slice none 0 0, xs', []⟩ : PV)]) = pvCells (qs ++ [⟨a, .slice none 0 0, xs, []⟩]) := by rw [pvCells_snoc, pvCells_snoc]
  refine ⟨h.st.sorted k r, (k.block bn (heap_lt h.xn) (h.nn.2.2 a hla)).trans h.xn, ?_, ?_, by rw [e]; exact h.nn, h.ln⟩
  · exact n5 _ _ h.x5 (by intro ca e; injection e with _ e; exact absurd e (by decide))
  · exact n5 _ _ h.xD (by intro ca e; cases e)
set_option maxHeartbeats 4000000 in
theorem tk_7 (ds : List Deferred) (a : Act) (X : World) (p : Pt) (ofs frs : List Int) (av : Value) (qs : List PV) (wl : List Int) (hfn : Hid (Fnd n wl)) (hok : Hid (NetOk (pnL L) cells f W)) (hc5 : cells.length ≤ 5000) (hf5 : f ≤ 10000)
    (hn : n = cells.length) (hq : qs.length ≤ 10000) (hof : Hid (∀ c, c < n → (ofs.getD c 0 = ((qs.length : Int) + 1) ↔ (c : Int) ∈ wl))) (hw : Hid (WebS w1 P m A cap L VA VB ca cb cells f W))
    (hcd : Hid (∀ i, i < f → (((0 ≤ (lkM W (-1, (i : Int))).1 ∧ (lkM W (-1, (i : Int))).1 ∈ wl) ∨ p = (-1, (i : Int)) ∨ (lkM W (-1, (i : Int)) = p ∧ (lkM W (-1, (i : Int))).1 < 0)) ↔ frC (lkM W) p wl i = true)))
    (hQ : ∀ c a d v w, Q (.panic c) (Act.put a d v) w → Q (.panic c) a w)
    (hs : Hid (TkF w1 X bl bw bo bf P go gf n f gl cl bn b5 Dl p ofs frs qs av (.slice none 0 0) wl []))
    (hfin : Hid (∀ a' X' b', FrN 104 ds [] a' → TkF w1 X' bl bw bo bf P go gf n f gl cl bn b5 Dl p ofs (setAll frs ((qs.length : Int) + 1) (frL f (lkM W) p wl)) qs av b' (srtC n wl) (frL f (lkM W) p wl) → Q .normal a' X'))
    (ha : FrN 104 ds [(1, .pointer (some ⟨bl, 0, none⟩)), (2, .pointer (some ⟨bw, 0, none⟩)), (3, .pointer (some ⟨bo, 0, none⟩)), (4, .pointer (some ⟨bf, 0, none⟩)), (5, .pointer (some ⟨b5, 0, none⟩)), (6, .pointer (some ⟨bn, 0, none⟩))] a) : (tkT 7).wp Try.prog Q a X := by
  obtain ⟨U, rfl, e1, e2, e3, e4, e5, e6, -⟩ := ha.openTK
  unfold FrTK
  simp only [e1, e2, e3, e4, e5, e6]
  clear e1 e2 e3 e4 e5 e6 ha
  show (Code.seq _ _).wp _ _ _ _
  have HN := Lib.hid hn
  obtain ⟨k, hk⟩ : ∃ k, qs.length = k := ⟨_, rfl⟩
  have HK := Lib.hid hk
  obtain ⟨n1, n1f, n1l⟩ := hs.out.st.blc
  obtain ⟨n2, n2l⟩ := hs.out.bnc
  have n6 : X.cell? ⟨gl, qs.length * 2, none⟩ = some av := by
    have h1 := hs.out.st.lr
    rw [List.length_append, List.length_singleton] at h1
    have h := (h1.cellAt (qs.length * 2) (by omega)).trans (pvCells_at (qs := qs ++ [⟨av, .slice none 0 0, wl, []⟩]) (i := qs.length) (by simp)).1
    rw [h]
    simp
  have ra := (hs.out.st.q1 ⟨av, .slice none 0 0, wl, []⟩ (by simp)).1
  dsimp only at ra
  rw [hk] at n1 n2 n6 hq
  have hwl := hfn.out.len
  have hw5 : Hid (wl.length ≤ 5000) := by show _ ≤ _; omega
  have hk1 : IntKind.i64.wrap (k : Int) = (k : Int) := by rw [IntWalk.i64_in _ (by omega)]
  have hk2 : (k : Int) < (k : Int) + 1 := by omega
  have HS : Hid (∀ Z, Z = X → Calls Try.prog 24 #[av] Z fun e w' => e = .returned (.tuple #[]) ∧ TkF w1 w' bl bw bo bf P go gf n f gl cl bn b5 Dl p ofs frs qs av (.slice none 0 0) (srtC n wl) []) := by
    rintro Z rfl
    refine (sort_row ra hw5.out).mono ?_
    rintro e w' ⟨rfl, h1, h2⟩
    rw [mergeSort_srt hfn.out] at h1
    have hl : wl.length = (srtC n wl).length := by
      have := (List.mergeSort_perm wl (fun x y => decide (x ≤ y))).length_eq
      rw [mergeSort_srt hfn.out] at this
      exact this.symm
    rw [hl] at h1
    exact ⟨rfl, tkf_sorted hs.out h2 h1⟩
  clear hk ra hwl hn
  go_upto_region 8 with (go_at_call 24; refine (HS.out _ rfl).mono ?_; rintro e X3 ⟨rfl, hT3⟩)
  have HT3 := Lib.hid hT3
  obtain ⟨m1, m2⟩ := hT3.st.bfc
  clear hT3 n1 n1f n1l n2 n2l n6 hk1 hk2
  go_upto_region 9 with fail
  refine wp_loop_ghost (fun m' a' X' => ∃ i b, m' = f - i ∧ i ≤ f ∧ FrN 104 ds [(1, .pointer (some ⟨bl, 0, none⟩)), (2, .pointer (some ⟨bw, 0, none⟩)), (3, .pointer (some ⟨bo, 0, none⟩)), (4, .pointer (some ⟨bf, 0, none⟩)), (5, .pointer (some ⟨b5, 0, none⟩)), (6, .pointer (some ⟨bn, 0, none⟩)), (46, .int .i64 (f : Int)), (47, .int .i64 (i : Int))] a' ∧ TkF w1 X' bl bw bo bf P go gf n f gl cl bn b5 Dl p ofs (setAll frs ((qs.length : Int) + 1) (frL i (lkM W) p wl)) qs av b (srtC n wl) (frL i (lkM W) p wl)) f ⟨0, .slice none 0 0, by omega, by omega, ⟨rfl, rfl, rfl, rfl, rfl, rfl, rfl, rfl, rfl, rfl, trivial⟩, HT3.out⟩ ?_
  rintro m' a2 X2 ⟨i, b, rfl, hi, hfr, hT⟩
  refine tk_9 _ w1 bl bw bo bf P m go gf gl cl bn b5 Dl A cap L VA VB ca cb cells f W n ds a2 X2 p ofs frs (srtC n wl) av b qs i wl hi hok hc5 hf5 HN.out (by rw [HK.out]; exact hq) hof hw hcd (fun c a d v w h => hQ c a d v w h) (Lib.hid hT) (Lib.hid fun a3 X3 b3 hlt hfr3 hT3 => ?_) (Lib.hid fun a3 X3 hfr3 hif hT3 => ?_) hfr
  · exact ⟨f - (i + 1), by omega, i + 1, b3, rfl, by omega, hfr3, hT3⟩
  · subst hif
    exact hfin.out a3 X3 b hfr3 hT3
end
end Go.Proofs.Ytogbanlfihabpaa
namespace Go.Proofs.Ytogbanlfihabpaa
open Go.RowKit
attribute [local go_sem] cell_set
attribute [local go_sem] Oper.semAt_some
set_option maxRecDepth 100000
set_option linter.unusedVariables false
theorem PtS.keepC {w1 X Y : World} {bl bw bo bf P go gf n f : Nat} {ofs frs : List Int} {v : Value} {qs : List PV} (h : PtS w1 X bl bw bo bf P go gf n f ofs frs v qs) (hk : ∀ (b : Nat) (ca : Array Value) (t : TypeId), X.heap[b]? = some (Obj.cells ca t (0, 0)) → Y.heap[b]? = X.heap[b]?) (hb : Below w1.heap.size w1 Y) : PtS w1 Y bl bw bo bf P go gf n f ofs frs v qs := by
  have kr : ∀ {t : TypeId} {s m : Nat} {u : Value} {zs : List Value}, Row X t s u m zs → Row Y t s u m zs := fun {t s m u zs} hr => hr.keep (fun b hm => by
    obtain ⟨cu, e⟩ := row_block hr b hm
    exact hk b _ _ e)
  exact ⟨hb, (hk bl _ _ h.xl).trans h.xl, (hk bw _ _ h.xw).trans h.xw, (hk bo _ _ h.xo).trans h.xo, (hk bf _ _ h.xf).trans h.xf, kr h.lr, kr h.og, kr h.fg, fun q hq => ⟨kr (h.q1 q hq).1, kr (h.q1 q hq).2⟩, h.dj, h.ng, h.lo, h.ne⟩
section
variable (w1 : World) (bl bw bo bf P m go gf : Nat) (A : Option Addr) (cap : Nat) (L : List (ByteArray × Int)) (VA VB : Option Addr) (ca cb : Nat) (cells : List Int) (f : Nat) (W : List (Pt × Pt)) (n : Nat)
set_option maxHeartbeats 4000000 in
theorem take_calls (X : World) (p : Pt) (ofs frs : List Int) (v : Value) (qs : List PV) (hs : Hid (SigOk L)) (hag : Hid (∀ i, i < cells.length → 0 ≤ cells.getD i 0 ∧ cells.getD i 0 < L.length)) (hok : Hid (NetOk (pnL L) cells f W)) (hc5 : cells.length ≤ 5000) (hf5 : f ≤ 10000)
    (hn : n = cells.length) (hp : Hid (isPt (pnL L) cells f p = true)) (hq : qs.length ≤ 10000) (hw : Hid (WebS w1 P m A cap L VA VB ca cb cells f W)) (hle : Hid (∀ c, c < n → ofs.getD c 0 ≤ (qs.length : Int)))
    (hcd : Hid (∀ i, i < f → (((0 ≤ (lkM W (-1, (i : Int))).1 ∧ (lkM W (-1, (i : Int))).1 ∈ wlk (pnL L) cells (lkM W) p) ∨ p = (-1, (i : Int)) ∨ (lkM W (-1, (i : Int)) = p ∧ (lkM W (-1, (i : Int))).1 < 0)) ↔ frC (lkM W) p (wlk (pnL L) cells (lkM W) p) i = true)))
    (HS : Hid (PtS w1 X bl bw bo bf P go gf n f ofs frs v qs)) :
    Calls Try.prog 22 #[.agg #[.int .i64 p.1, .int .i64 p.2], .pointer (some ⟨bl, 0, none⟩), .pointer (some ⟨bw, 0, none⟩), .pointer (some ⟨bo, 0, none⟩), .pointer (some ⟨bf, 0, none⟩)] X fun e X' => e = .returned (.tuple #[]) ∧
      ∃ v' a b, PtS w1 X' bl bw bo bf P go gf n f (setAll ofs ((qs.length + 1 : Nat) : Int) (wlk (pnL L) cells (lkM W) p)) (setAll frs ((qs.length : Int) + 1) (frL f (lkM W) p (wlk (pnL L) cells (lkM W) p))) v' (qs ++ [⟨a, b, srtC n (wlk (pnL L) cells (lkM W) p), frL f (lkM W) p (wlk (pnL L) cells (lkM W) p)⟩]) := by
  obtain ⟨wl, hwl⟩ : ∃ wl, wlk (pnL L) cells (lkM W) p = wl := ⟨_, rfl⟩
  rw [hwl] at hcd ⊢
  have hfn : Hid (Fnd n wl) := by
    have hf : Fnd cells.length wl := by
      rw [← hwl]
      exact Fnd.walkF (fun c q hq => by obtain ⟨y, rfl⟩ := rowP_mem hq; exact lkM_lt hok.out y) _ _ ((Fnd.nil _).add (isPt_lt (startP_is hok.out hp.out)))
    show Fnd n wl
    rw [hn]; exact hf
  have hol : ofs.length = n := by have := HS.out.og.1; simp [ivals] at this; exact this
  have hof : Hid (∀ c, c < n → ((setAll ofs ((qs.length + 1 : Nat) : Int) wl).getD c 0 = ((qs.length : Int) + 1) ↔ (c : Int) ∈ wl)) := fun c hc => by
    rw [setAll_at (fun x hx => (hfn.out.lt x hx).1) (by omega)]
    by_cases h : (c : Int) ∈ wl
    · simp [h]
    · have := hle.out c hc
      simp only [h, if_false, iff_false]
      omega
  refine (callsIn_wide (n := 5)).1 (callsIn_of_wp_marks Try.func22 rfl trivial (Code.wpIn_mono npQ_le (wpIn_wide.2 ?_)) rfl)
  simp only [Try.ntmps22, List.size_toArray, List.length_cons, List.length_nil, Nat.reduceAdd, Nat.reduceSub, Array.replicate_succ, Array.replicate_zero, List.push_toArray, List.append_toArray, List.nil_append, List.cons_append]
  refine (show ∀ a, FrN 104 [] [(0, .agg #[.int .i64 p.1, .int .i64 p.2]), (1, .pointer (some ⟨bl, 0, none⟩)), (2, .pointer (some ⟨bw, 0, none⟩)), (3, .pointer (some ⟨bo, 0, none⟩)), (4, .pointer (some ⟨bf, 0, none⟩))] a → (tkT 0).wp Try.prog _ a X from ?_) _ ⟨rfl, rfl, rfl, rfl, rfl, rfl, rfl, trivial⟩
  intro a ha
  refine tk_0 _ w1 bl bw bo bf P m go gf A cap L VA VB ca cb cells f W n a X p wl ofs frs v qs hs hag hok hc5 hn hp hwl hq hw HS (Lib.hid fun a2 Y Dl gl cl bn b5 a1 hf2 hP hb2 hp2 hD hsep hDl => ?_) ha
  have hT : TkF w1 Y bl bw bo bf P go gf n f gl cl bn b5 Dl p (setAll ofs ((qs.length + 1 : Nat) : Int) wl) frs qs a1 (.slice none 0 0) wl [] := by
    obtain ⟨s1, s2, s3⟩ := hsep bn (by simp)
    simp only [List.mem_cons, List.not_mem_nil, or_false, not_or] at s2
    exact ⟨hP, hb2, hp2, hD, ⟨s2.2.2.2.2.1, s2.2.2.2.2.2.1, s3⟩, (hsep b5 (by simp)).1, s1, (hsep Dl (by simp)).1⟩
  refine tk_7 _ w1 bl bw bo bf P m go gf gl cl bn b5 Dl A cap L VA VB ca cb cells f W n _ a2 Y p _ frs a1 qs wl hfn hok hc5 hf5 hn hq hof hw hcd (fun c a d v w h => by cases d <;> exact h) (Lib.hid hT) (Lib.hid fun a3 X3 b3 hf3 hT3 => ?_) hf2
  obtain ⟨tm, df⟩ := a3
  obtain ⟨sz, rfl, -⟩ := hf3
  have hz := hT3.ln.2.2
  refine leaveM hT3.xD ⟨.tuple #[], by simp [results, Try.f22, go_sem], rfl, _, a1, b3, hT3.st.keepC (fun b ca t e => World.putObj_heap_other (fun e2 => ?_)) ?_⟩
  · have := hT3.xD
    rw [← e2, e] at this; cases this
  · exact ⟨hT3.st.bel.os, hT3.st.bel.tape, hT3.st.bel.output, by simpa using hT3.st.bel.size, fun k hk => (World.putObj_heap_other (by omega)).trans (hT3.st.bel.block k hk)⟩
end
end Go.Proofs.Ytogbanlfihabpaa
