/-
  load.Store: its frames; what it builds.
-/
import Derived.Test.YthbobooiedcofaaBase
import Derived.Test.YthbobooiedcofaaPieces
import Derived.Test.YthbobooiedcofaaStorePlain
import Derived.Test.YthbobooiedcofaaWirWorks
/-
  What is left of a code from a region on; frames by look-ups.
-/
namespace Go.Proofs.Ythbobooiedcofaa
open Go.RowKit
set_option maxRecDepth 100000

def leadQ : Code → Option Nat
  | .region id _ _ => some id
  | .seq a _ => leadQ a
  | _ => none
/-- What is left of a code from region n on. -/
def tailQ (n : Nat) : Code → Option Code
  | .region id o d => if id = n then some (.region id o d) else none
  | .seq a b => if leadQ a = some n then some (.seq a b) else (tailQ n a).or (tailQ n b)
  | .cond _ a b => (tailQ n a).or (tailQ n b)
  | .block _ a => tailQ n a
  | .loop a => tailQ n a
  | .scope a => tailQ n a
  | .rangeFunc _ _ a b => (tailQ n a).or (tailQ n b)
  | _ => none
theorem list_of_range (l : List Value) (d : Value) : l = (List.range l.length).map fun i => (l[i]?).getD d := by
  refine List.ext_getElem (by simp) fun i h1 h2 => ?_
  simp [h1]
/-- What slots of a frame hold. -/
def Sl (a : Act) : List (Nat × Value) → Prop
  | [] => True
  | (i, v) :: r => a.tmps[i]? = some v ∧ Sl a r
def Us (U : Nat → Value) : List (Nat × Value) → Prop
  | [] => True
  | (i, v) :: r => U i = v ∧ Us U r
structure FrN (n : Nat) (ds : List Deferred) (L : List (Nat × Value)) (a : Act) : Prop where
  sz : a.tmps.size = n
  df : a.defers = ds
  sl : Sl a L
theorem sl_us {a : Act} {U : Nat → Value} (h : ∀ i v, a.tmps[i]? = some v → U i = v) : ∀ L, Sl a L → Us U L
  | [], _ => trivial
  | (i, v) :: r, hs => ⟨h i v hs.1, sl_us h r hs.2⟩
theorem FrN.open_ {n : Nat} {ds : List Deferred} {L : List (Nat × Value)} {a : Act} (h : FrN n ds L a) : ∃ U : Nat → Value, a = { tmps := ((List.range n).map U).toArray, defers := ds } ∧ Us U L := by
  obtain ⟨⟨l⟩, df⟩ := a
  obtain ⟨sz, rfl, sl⟩ := h
  have e := list_of_range l undef
  obtain ⟨U, hU⟩ : ∃ U : Nat → Value, (fun i => (l[i]?).getD undef) = U := ⟨_, rfl⟩
  have g : ∀ i v, ((⟨⟨l⟩, df⟩ : Act)).tmps[i]? = some v → U i = v := fun i v h => by
    have h' : l[i]? = some v := by simpa using h
    rw [← hU]; simp [h']
  simp only [List.size_toArray] at sz
  rw [sz, hU] at e
  exact ⟨U, by rw [e], sl_us g L sl⟩
/-- Where the walk stands ahead of a region. -/
theorem at_seq {P : Program} {Q : Exit → Act → World → Prop} {a : Act} {w : World} (n : Nat) {l : Array Oper} {d : Bool} {c : Code} (h : (Code.seq (.region n l d) c).wp P Q a w) : (Code.seq (.region n l d) c).wp P Q a w := h
theorem at_seq2 {P : Program} {Q : Exit → Act → World → Prop} {a : Act} {w : World} (n : Nat) {l : Array Oper} {d : Bool} {c c2 : Code} (h : (Code.seq (Code.seq (.region n l d) c) c2).wp P Q a w) : (Code.seq (Code.seq (.region n l d) c) c2).wp P Q a w := h
theorem at_seq3 {P : Program} {Q : Exit → Act → World → Prop} {a : Act} {w : World} (n : Nat) {l : Array Oper} {d : Bool} {c c2 c3 : Code} (h : (Code.seq (Code.seq (Code.seq (.region n l d) c) c2) c3).wp P Q a w) : (Code.seq (Code.seq (Code.seq (.region n l d) c) c2) c3).wp P Q a w := h
end Go.Proofs.Ythbobooiedcofaa
namespace Go.Proofs.Ythbobooiedcofaa
open Go.RowKit
attribute [local go_sem] cell_set
set_option maxRecDepth 100000
set_option linter.unusedVariables false

noncomputable def lsT (n : Nat) : Code := ((Try.f31.body).bind (tailQ n)).getD .skip
def FrGL (ds : List Deferred) (U : Nat → Value) : Act := { tmps := (U 0 :: U 1 :: U 2 :: U 3 :: U 4 :: U 5 :: U 6 :: U 7 :: U 8 :: U 9 :: U 10 :: U 11 :: U 12 :: U 13 :: U 14 :: U 15 :: U 16 :: U 17 :: U 18 :: U 19 :: U 20 :: U 21 :: U 22 :: U 23 :: U 24 :: U 25 :: U 26 :: U 27 :: U 28 :: U 29 :: U 30 :: U 31 :: U 32 :: U 33 :: U 34 :: U 35 :: U 36 :: U 37 :: U 38 :: U 39 :: U 40 :: U 41 :: U 42 :: U 43 :: U 44 :: U 45 :: U 46 :: U 47 :: U 48 :: U 49 :: U 50 :: U 51 :: U 52 :: U 53 :: U 54 :: U 55 :: U 56 :: U 57 :: U 58 :: U 59 :: U 60 :: U 61 :: U 62 :: U 63 :: U 64 :: U 65 :: U 66 :: U 67 :: U 68 :: U 69 :: U 70 :: U 71 :: U 72 :: U 73 :: U 74 :: U 75 :: U 76 :: U 77 :: U 78 :: U 79 :: U 80 :: U 81 :: U 82 :: U 83 :: U 84 :: U 85 :: U 86 :: U 87 :: U 88 :: U 89 :: U 90 :: U 91 :: U 92 :: U 93 :: U 94 :: U 95 :: U 96 :: U 97 :: U 98 :: U 99 :: U 100 :: U 101 :: U 102 :: U 103 :: U 104 :: U 105 :: U 106 :: U 107 :: U 108 :: U 109 :: U 110 :: U 111 :: U 112 :: U 113 :: U 114 :: U 115 :: U 116 :: U 117 :: U 118 :: U 119 :: U 120 :: U 121 :: U 122 :: U 123 :: U 124 :: U 125 :: U 126 :: U 127 :: U 128 :: U 129 :: U 130 :: U 131 :: U 132 :: U 133 :: U 134 :: U 135 :: U 136 :: U 137 :: U 138 :: U 139 :: U 140 :: U 141 :: U 142 :: U 143 :: U 144 :: U 145 :: U 146 :: U 147 :: U 148 :: U 149 :: U 150 :: U 151 :: U 152 :: U 153 :: U 154 :: U 155 :: U 156 :: U 157 :: U 158 :: U 159 :: U 160 :: U 161 :: U 162 :: U 163 :: U 164 :: U 165 :: U 166 :: U 167 :: U 168 :: U 169 :: U 170 :: U 171 :: U 172 :: U 173 :: U 174 :: U 175 :: U 176 :: U 177 :: U 178 :: U 179 :: U 180 :: U 181 :: []).toArray, defers := ds }
theorem FrN.open {ds : List Deferred} {L : List (Nat × Value)} {a : Act} (h : FrN 182 ds L a) : ∃ U, a = FrGL ds U ∧ Us U L := by
  obtain ⟨U, h1, h2⟩ := h.open_
  exact ⟨U, h1.trans rfl, h2⟩
/-- The slots that hold the boxes. -/
def LS (h B b10 b11 b12 b13 : Nat) : List (Nat × Value) := [(1, .pointer (some ⟨B, 0, none⟩)), (2, .pointer (some ⟨h, 0, none⟩)), (4, .pointer (some ⟨h + 1, 0, none⟩)), (5, .pointer (some ⟨h + 2, 0, none⟩)), (6, .pointer (some ⟨h + 3, 0, none⟩)), (7, .pointer (some ⟨h + 4, 0, none⟩)), (10, .pointer (some ⟨b10, 0, none⟩)), (11, .pointer (some ⟨b11, 0, none⟩)), (12, .pointer (some ⟨b12, 0, none⟩)), (13, .pointer (some ⟨b13, 0, none⟩))]
/-- What does not turn: the boxes of the arguments and of the results. -/
structure SF (w : World) (As : Option Addr) (n cap A : Nat) (X : World) : Prop where
  s : X.heap[w.heap.size]? = some (.cells #[.slice As n cap] 63 (0, 0))
  r : X.heap[w.heap.size + 1]? = some (.cells #[.slice none 0 0, .int .i64 0, .slice none 0 0] 67 (0, 0))
  i : X.heap[w.heap.size + 2]? = some (.cells #[.slice none 0 0] 64 (0, 0))
  e : X.heap[w.heap.size + 3]? = some (.cells #[.int .i64 0] 24 (0, 0))
  a : X.heap[w.heap.size + 4]? = some (.cells #[.pointer (some ⟨A, 0, none⟩)] 23 (0, 0))
  bel : Below w.heap.size w X
theorem SF.kp {w X X' : World} {As : Option Addr} {n cap A : Nat} {G : List Nat} (h : SF w As n cap A X) (hk : Kp G X X') (hG : ∀ b ∈ G, w.heap.size + 5 ≤ b) : SF w As n cap A X' := by
  have hl := heap_lt h.a
  have k : ∀ b, b < w.heap.size + 5 → X'.heap[b]? = X.heap[b]? := fun b hb => hk.block b (by omega) (fun hm => by have := hG b hm; omega)
  exact ⟨(k _ (by omega)).trans h.s, (k _ (by omega)).trans h.r, (k _ (by omega)).trans h.i, (k _ (by omega)).trans h.e, (k _ (by omega)).trans h.a, h.bel.trans (hk.below h.bel.size (fun b hb => by have := hG b hb; omega))⟩
theorem SF.below {w X X' : World} {As : Option Addr} {n cap A : Nat} (h : SF w As n cap A X) (hb : Below X.heap.size X X') : SF w As n cap A X' := h.kp (Kp.of_below (F := []) hb) (by simp)
/-- What is being built. -/
structure St (w0 : World) (b10 b11 b13 m : Nat) (f : Int) (C K : List Int) (P : List Pt) (T : List (Pt × Pt)) (g : Int → Option Value) (X : World) : Prop where
  ex : ∃ F1 F2 F3, BoxN X b10 C f T F1 ∧ BoxS X b11 64 3 1 K.length (ivals K) F2 ∧ BoxS X b13 84 39 2 P.length (pvals P) F3 ∧ Dj F1 F2 ∧ Dj F1 F3 ∧ Dj F2 F3 ∧ (m ∉ F1 ∧ m ∉ F2 ∧ m ∉ F3) ∧ ((∀ y ∈ F1, y = b10 ∨ w0.heap.size ≤ y) ∧ (∀ y ∈ F2, y = b11 ∨ w0.heap.size ≤ y) ∧ (∀ y ∈ F3, y = b13 ∨ w0.heap.size ≤ y))
  mp : MP (fun n : Int => Value.int .i64 n) X m g
  kp : Kp [b10, b11, b13, m] w0 X
  lt : b10 < w0.heap.size ∧ b11 < w0.heap.size ∧ b13 < w0.heap.size ∧ m < w0.heap.size
/-- A step that turns the net's memory alone. -/
def KC (X X' : World) : Prop := ∃ G, Kp G X X' ∧ ∀ y ∈ G, ∃ c t, X.heap[y]? = some (.cells c t (0, 0)) ∧ t ≠ 176 ∧ t ≠ 174
theorem BoxS.tys {w : World} {b : Nat} {te e : TypeId} {size n : Nat} {xs : List Value} {F : List Nat} (h : BoxS w b te e size n xs F) : ∀ y ∈ F, ∃ c t, w.heap[y]? = some (.cells c t (0, 0)) ∧ (t = te ∨ t = e) := by
  obtain ⟨⟨V, c, h1, h2, rfl⟩, ne⟩ := h
  intro y hy
  rcases List.mem_cons.1 hy with rfl | hy
  · exact ⟨_, _, h1, .inl rfl⟩
  · obtain ⟨cur, hh⟩ := h2.ty hy; exact ⟨_, _, hh, .inr rfl⟩
theorem BoxN.tys {w : World} {b : Nat} {C : List Int} {f : Int} {T : List (Pt × Pt)} {F : List Nat} (h : BoxN w b C f T F) : ∀ y ∈ F, ∃ c t, w.heap[y]? = some (.cells c t (0, 0)) ∧ (t = 67 ∨ t = 3 ∨ t = 55) := by
  obtain ⟨V1, c1, V2, c2, h1, h2, h3, rfl⟩ := h.ex
  intro y hy
  simp only [List.mem_cons, List.mem_append] at hy
  rcases hy with rfl | hy | hy
  · exact ⟨_, _, h1, .inl rfl⟩
  · obtain ⟨cur, hh⟩ := h2.ty hy; exact ⟨_, _, hh, .inr (.inl rfl)⟩
  · obtain ⟨cur, hh⟩ := h3.ty hy; exact ⟨_, _, hh, .inr (.inr rfl)⟩
/-- .. and no list of ports. -/
def KN (X X' : World) : Prop := ∃ G, Kp G X X' ∧ ∀ y ∈ G, ∃ c t, X.heap[y]? = some (.cells c t (0, 0)) ∧ t ≠ 39
theorem KN.net {w w' : World} {b : Nat} {C : List Int} {f : Int} {T : List (Pt × Pt)} {F F' : List Nat} (h : BoxN w b C f T F) (hs : Stp F w F' w') : KN w w' := ⟨F, hs.kp, fun y hy => by
  obtain ⟨c, t, h1, rfl | rfl | rfl⟩ := h.tys y hy
  · exact ⟨_, _, h1, by decide⟩
  · exact ⟨_, _, h1, by decide⟩
  · exact ⟨_, _, h1, by decide⟩⟩
theorem KC.box {w w' : World} {b : Nat} {te e : TypeId} {size n : Nat} {xs : List Value} {F F' : List Nat} (h : BoxS w b te e size n xs F) (hs : Stp F w F' w') (n1 : te ≠ 176 ∧ te ≠ 174) (n2 : e ≠ 176 ∧ e ≠ 174) : KC w w' := ⟨F, hs.kp, fun y hy => by
  obtain ⟨c, t, h1, rfl | rfl⟩ := h.tys y hy
  · exact ⟨_, _, h1, n1⟩
  · exact ⟨_, _, h1, n2⟩⟩
theorem KC.net {w w' : World} {b : Nat} {C : List Int} {f : Int} {T : List (Pt × Pt)} {F F' : List Nat} (h : BoxN w b C f T F) (hs : Stp F w F' w') : KC w w' := ⟨F, hs.kp, fun y hy => by
  obtain ⟨c, t, h1, rfl | rfl | rfl⟩ := h.tys y hy
  · exact ⟨_, _, h1, by decide, by decide⟩
  · exact ⟨_, _, h1, by decide, by decide⟩
  · exact ⟨_, _, h1, by decide, by decide⟩⟩
section
variable {w0 X X' : World} {b10 b11 b13 m : Nat} {f : Int} {C K : List Int} {P : List Pt} {T : List (Pt × Pt)} {g : Int → Option Value}
/-- Elsewhere. -/
theorem St.kpE (h : St w0 b10 b11 b13 m f C K P T g X) {G : List Nat} (hk : Kp G X X') (hG : ∀ b ∈ G, X.heap.size ≤ b) : St w0 b10 b11 b13 m f C K P T g X' := by
  obtain ⟨⟨F1, F2, F3, h1, h2, h3, d⟩, h4, h5, h6⟩ := h
  have k : ∀ b, b < X.heap.size → X'.heap[b]? = X.heap[b]? := fun b hb => hk.block b hb (fun hm => by have := hG b hm; omega)
  exact ⟨⟨F1, F2, F3, h1.keep fun y hy => k y (h1.lt y hy), h2.keep fun y hy => k y (h2.lt y hy), h3.keep fun y hy => k y (h3.lt y hy), d⟩, h4.keep (k m h4.lt), h5.trans hk (fun b hb => .inr (by have := hG b hb; have := h5.size; omega)), h6⟩
theorem St.below (h : St w0 b10 b11 b13 m f C K P T g X) (hb : Below X.heap.size X X') : St w0 b10 b11 b13 m f C K P T g X' := h.kpE (Kp.of_below (F := []) hb) (by simp)
theorem St.grown (h : St w0 b10 b11 b13 m f C K P T g X) {row : Option Nat} (hg : X.grownBy X' row) {N : Nat} (hN : w0.heap.size ≤ N) (hr : ∀ r, row = some r → N ≤ r ∧ ∃ o : Obj, X.heap[r]? = some o ∧ o.isCells = false) : St w0 b10 b11 b13 m f C K P T g X' := by
  obtain ⟨⟨F1, F2, F3, h1, h2, h3, d⟩, h4, h5, h6⟩ := h
  have hr2 : ∀ r, row = some r → ∃ o : Obj, X.heap[r]? = some o ∧ o.isCells = false := fun r e => (hr r e).2
  refine ⟨⟨F1, F2, F3, h1.keep fun y hy => ?_, h2.keep fun y hy => ?_, h3.keep fun y hy => ?_, d⟩, h4.keep (hg.block m h4.lt (fun e => by have := (hr m e.symm).1; omega)), ?_, h6⟩
  · obtain ⟨c, t, hh⟩ := h1.cl y hy; exact grownBy_keeps_cells hg hr2 hh rfl
  · obtain ⟨c, t, hh⟩ := h2.cl y hy; exact grownBy_keeps_cells hg hr2 hh rfl
  · obtain ⟨c, t, hh⟩ := h3.cl y hy; exact grownBy_keeps_cells hg hr2 hh rfl
  · cases row with
    | none => exact h5.trans (G := []) ⟨hg.os, hg.tape, hg.output, hg.size, fun b hb _ => hg.block b hb (by simp)⟩ (by simp)
    | some r => exact h5.trans (G := [r]) ⟨hg.os, hg.tape, hg.output, hg.size, fun b hb hn => hg.block b hb (by simpa using hn)⟩ (fun b hb => by simp at hb; subst hb; have := (hr b rfl).1; right; omega)
theorem new_of {F F' : List Nat} {b N : Nat} {W W' : World} (h : ∀ y ∈ F, y = b ∨ N ≤ y) (hs : Stp F W F' W') (hN : N ≤ W.heap.size) : ∀ y ∈ F', y = b ∨ N ≤ y := fun y hy => by
  rcases hs.new y hy with h1 | h1
  · exact h y h1
  · right; omega
theorem kp_of {F F' : List Nat} {b N : Nat} {W W' : World} {G : List Nat} (h : ∀ y ∈ F, y = b ∨ N ≤ y) (hs : Stp F W F' W') (hk : Kp G w0 W) (hN : N = w0.heap.size) (hb : b ∈ G) : Kp G w0 W' :=
  hk.trans hs.kp fun y hy => by rcases h y hy with rfl | h1; exact .inl hb; right; omega
/-- One more port. -/
theorem St.portS (h : St w0 b10 b11 b13 m f C K P T g X) : ∃ V c, X.cell? ⟨b13, 0, none⟩ = some (.slice V P.length c) ∧ b13 < X.heap.size ∧ Row X 39 2 (.slice V P.length c) P.length (pvals P) ∧
    ∀ (o : Obj) (w5 : World) (V5 : Option Addr) (c5 : Nat) (p : Pt), Kp (ownB (.slice V P.length c)) (X.alloc o) w5 → (ownB (.slice V5 (P.length + 1) c5) = ownB (.slice V P.length c) ∨ ownB (.slice V5 (P.length + 1) c5) = [(X.alloc o).heap.size]) → Row w5 39 2 (.slice V5 (P.length + 1) c5) (P.length + 1) (pvals P ++ [.int .i64 p.1, .int .i64 p.2]) →
      (w5.cell? ⟨b13, 0, none⟩ = some (.slice V P.length c) ∧ w5.frozen? ⟨b13, 0, none⟩ = false ∧ b13 < w5.heap.size) ∧ St w0 b10 b11 b13 m f C K (P ++ [p]) T g (w5.setCell ⟨b13, 0, none⟩ (.slice V5 (P.length + 1) c5)) ∧ KC X (w5.setCell ⟨b13, 0, none⟩ (.slice V5 (P.length + 1) c5)) := by
  obtain ⟨⟨F1, F2, F3, h1, h2, ⟨⟨V, c, x1, x2, rfl⟩, ne⟩, d12, d13, d23, ⟨m1, m2, m3⟩, n1, n2, n3⟩, h4, h5, h6⟩ := h
  refine ⟨V, c, by simp [World.cell?, x1], heap_lt x1, x2, fun o w5 V5 c5 p k5 o5 r5 => ?_⟩
  have hX : BoxS X b13 84 39 2 P.length (pvals P) _ := ⟨⟨V, c, x1, x2, rfl⟩, ne⟩
  obtain ⟨q, F', hB, hS⟩ := BoxS.app x1 x2 ne k5 o5 r5
  have lt3 : ∀ y ∈ b13 :: ownB (.slice V P.length c), y < X.heap.size := fun y hy => by
    rcases List.mem_cons.1 hy with rfl | hy
    · exact heap_lt x1
    · exact x2.lt y hy
  refine ⟨q, ⟨⟨F1, F2, F', h1.kp hS.kp d13, h2.kp hS.kp d23, by rw [pvals_snoc, List.length_append]; exact hB, d12, (d13.symm.stp hS h1.lt).symm, (d23.symm.stp hS h2.lt).symm, ⟨m1, m2, fun hm => ?_⟩, n1, n2, new_of n3 hS h5.size⟩, h4.keep (hS.kp.block m h4.lt m3), kp_of n3 hS h5 rfl (by simp), h6⟩, KC.box hX hS (by decide) (by decide)⟩
  rcases hS.new m hm with e | e
  · exact m3 e
  · have := h4.lt; omega
/-- One more number. -/
theorem St.cellS (h : St w0 b10 b11 b13 m f C K P T g X) : ∃ V c, X.cell? ⟨b11, 0, none⟩ = some (.slice V K.length c) ∧ b11 < X.heap.size ∧ Row X 3 1 (.slice V K.length c) K.length (ivals K) ∧
    ∀ (o : Obj) (w5 : World) (V5 : Option Addr) (c5 : Nat) (x : Int), Kp (ownB (.slice V K.length c)) (X.alloc o) w5 → (ownB (.slice V5 (K.length + 1) c5) = ownB (.slice V K.length c) ∨ ownB (.slice V5 (K.length + 1) c5) = [(X.alloc o).heap.size]) → Row w5 3 1 (.slice V5 (K.length + 1) c5) (K.length + 1) (ivals K ++ [.int .i64 x]) →
      (w5.cell? ⟨b11, 0, none⟩ = some (.slice V K.length c) ∧ w5.frozen? ⟨b11, 0, none⟩ = false ∧ b11 < w5.heap.size) ∧ St w0 b10 b11 b13 m f C (K ++ [x]) P T g (w5.setCell ⟨b11, 0, none⟩ (.slice V5 (K.length + 1) c5)) ∧ KC X (w5.setCell ⟨b11, 0, none⟩ (.slice V5 (K.length + 1) c5)) := by
  obtain ⟨⟨F1, F2, F3, h1, ⟨⟨V, c, x1, x2, rfl⟩, ne⟩, h3, d12, d13, d23, ⟨m1, m2, m3⟩, n1, n2, n3⟩, h4, h5, h6⟩ := h
  refine ⟨V, c, by simp [World.cell?, x1], heap_lt x1, x2, fun o w5 V5 c5 x k5 o5 r5 => ?_⟩
  have hX : BoxS X b11 64 3 1 K.length (ivals K) _ := ⟨⟨V, c, x1, x2, rfl⟩, ne⟩
  obtain ⟨q, F', hB, hS⟩ := BoxS.app x1 x2 ne k5 o5 r5
  refine ⟨q, ⟨⟨F1, F', F3, h1.kp hS.kp d12, by rw [ivals_snoc, List.length_append]; exact hB, h3.kp hS.kp d23.symm, (d12.symm.stp hS h1.lt).symm, d13, d23.stp hS h3.lt, ⟨m1, fun hm => ?_, m3⟩, n1, new_of n2 hS h5.size, n3⟩, h4.keep (hS.kp.block m h4.lt m2), kp_of n2 hS h5 rfl (by simp), h6⟩, KC.box hX hS (by decide) (by decide)⟩
  rcases hS.new m hm with e | e
  · exact m2 e
  · have := h4.lt; omega
/-- One more cell of the net. -/
theorem St.netC (h : St w0 b10 b11 b13 m f C K P T g X) : ∃ V c, X.cell? ⟨b10, 0, none⟩ = some (.slice V C.length c) ∧ b10 < X.heap.size ∧ Row X 3 1 (.slice V C.length c) C.length (ivals C) ∧
    ∀ (o : Obj) (w5 : World) (V5 : Option Addr) (c5 : Nat) (x : Int), Kp (ownB (.slice V C.length c)) (X.alloc o) w5 → (ownB (.slice V5 (C.length + 1) c5) = ownB (.slice V C.length c) ∨ ownB (.slice V5 (C.length + 1) c5) = [(X.alloc o).heap.size]) → Row w5 3 1 (.slice V5 (C.length + 1) c5) (C.length + 1) (ivals C ++ [.int .i64 x]) →
      (w5.cell? ⟨b10, 0, none⟩ = some (.slice V C.length c) ∧ w5.frozen? ⟨b10, 0, none⟩ = false ∧ b10 < w5.heap.size) ∧ St w0 b10 b11 b13 m f (C ++ [x]) K P T g (w5.setCell ⟨b10, 0, none⟩ (.slice V5 (C.length + 1) c5)) ∧ KC X (w5.setCell ⟨b10, 0, none⟩ (.slice V5 (C.length + 1) c5)) := by
  obtain ⟨⟨F1, F2, F3, ⟨V1, c1, V2, c2, x1, x2, x3, rfl⟩, h2, h3, d12, d13, d23, ⟨m1, m2, m3⟩, n1, n2, n3⟩, h4, h5, h6⟩ := h
  refine ⟨V1, c1, by simp [World.cell?, x1], heap_lt x1, x2, fun o w5 V5 c5 x k5 o5 r5 => ?_⟩
  have hX : BoxN X b10 C f T _ := ⟨V1, c1, V2, c2, x1, x2, x3, rfl⟩
  obtain ⟨q, F', hB, hS⟩ := BoxN.appC x1 x2 x3 k5 o5 r5
  refine ⟨q, ⟨⟨F', F2, F3, hB, h2.kp hS.kp d12.symm, h3.kp hS.kp d13.symm, d12.stp hS h2.lt, d13.stp hS h3.lt, d23, ⟨fun hm => ?_, m2, m3⟩, new_of n1 hS h5.size, n2, n3⟩, h4.keep (hS.kp.block m h4.lt m1), kp_of n1 hS h5 rfl (by simp), h6⟩, KC.net hX hS⟩
  rcases hS.new m hm with e | e
  · exact m1 e
  · have := h4.lt; omega
/-- One more wire of the net. -/
theorem St.netT (h : St w0 b10 b11 b13 m f C K P T g X) : ∃ V c, X.cell? ⟨b10, 2, none⟩ = some (.slice V T.length c) ∧ b10 < X.heap.size ∧ Row X 55 4 (.slice V T.length c) T.length (wrvals T) ∧
    ∀ (o : Obj) (w5 : World) (V5 : Option Addr) (c5 : Nat) (p q : Pt), Kp (ownB (.slice V T.length c)) (X.alloc o) w5 → (ownB (.slice V5 (T.length + 1) c5) = ownB (.slice V T.length c) ∨ ownB (.slice V5 (T.length + 1) c5) = [(X.alloc o).heap.size]) → Row w5 55 4 (.slice V5 (T.length + 1) c5) (T.length + 1) (wrvals T ++ [.int .i64 p.1, .int .i64 p.2, .int .i64 q.1, .int .i64 q.2]) →
      (w5.cell? ⟨b10, 2, none⟩ = some (.slice V T.length c) ∧ w5.frozen? ⟨b10, 2, none⟩ = false ∧ b10 < w5.heap.size) ∧ St w0 b10 b11 b13 m f C K P (T ++ [(p, q)]) g (w5.setCell ⟨b10, 2, none⟩ (.slice V5 (T.length + 1) c5)) ∧ KN X (w5.setCell ⟨b10, 2, none⟩ (.slice V5 (T.length + 1) c5)) := by
  obtain ⟨⟨F1, F2, F3, ⟨V1, c1, V2, c2, x1, x2, x3, rfl⟩, h2, h3, d12, d13, d23, ⟨m1, m2, m3⟩, n1, n2, n3⟩, h4, h5, h6⟩ := h
  refine ⟨V2, c2, by simp [World.cell?, x1], heap_lt x1, x3, fun o w5 V5 c5 p r k5 o5 r5 => ?_⟩
  have hX : BoxN X b10 C f T _ := ⟨V1, c1, V2, c2, x1, x2, x3, rfl⟩
  obtain ⟨q, F', hB, hS⟩ := BoxN.appT x1 x2 x3 k5 o5 r5
  refine ⟨q, ⟨⟨F', F2, F3, hB, h2.kp hS.kp d12.symm, h3.kp hS.kp d13.symm, d12.stp hS h2.lt, d13.stp hS h3.lt, d23, ⟨fun hm => ?_, m2, m3⟩, new_of n1 hS h5.size, n2, n3⟩, h4.keep (hS.kp.block m h4.lt m1), kp_of n1 hS h5 rfl (by simp), h6⟩, KN.net hX hS⟩
  rcases hS.new m hm with e | e
  · exact m1 e
  · have := h4.lt; omega
/-- The map is written. -/
theorem St.upd (h : St w0 b10 b11 b13 m f C K P T g X) {k : Int} {v : Value} (hm : MP (fun n : Int => Value.int .i64 n) X' m (upd g k v)) (hk : Kp [m] X X') : St w0 b10 b11 b13 m f C K P T (upd g k v) X' := by
  obtain ⟨⟨F1, F2, F3, h1, h2, h3, d12, d13, d23, ⟨m1, m2, m3⟩, n⟩, h4, h5, h6⟩ := h
  exact ⟨⟨F1, F2, F3, h1.kp hk (fun y hy => by simp; rintro rfl; exact m1 hy), h2.kp hk (fun y hy => by simp; rintro rfl; exact m2 hy), h3.kp hk (fun y hy => by simp; rintro rfl; exact m3 hy), d12, d13, d23, ⟨m1, m2, m3⟩, n⟩, hm, h5.trans hk (fun b hb => .inl (by simp at hb; simp [hb])), h6⟩
/-- The blocks that turn, all. -/
theorem St.keepsF (h : St w0 b10 b11 b13 m f C K P T g X) : b10 < X.heap.size ∧ b11 < X.heap.size ∧ b13 < X.heap.size ∧ m < X.heap.size := by
  obtain ⟨l1, l2, l3, l4⟩ := h.lt
  have := h.kp.size
  omega
end
end Go.Proofs.Ythbobooiedcofaa
