/-
  Agendas: ONE answer of the program and of the document, to each call; the state of both, with boxes that stay.
-/
import Derived.Test.YtkonfogebepccaaDoorAgSide
import Derived.Test.YtkonfogebepccaaDoorAgRem
import Derived.Test.YtkonfogebepccaaDoorAgAll
import Derived.Test.YtkonfogebepccaaDoorRAgRem
import Derived.Test.YtkonfogebepccaaDoorRAgendaNew
namespace Go.Proofs.YtkonfogebepccaaDoor
open Go.RowKit
set_option linter.unusedVariables false

/-- What a call on the program's agenda leaves. -/
def AgPost (A : Nat) (ps' : List (Int × Int)) (F : List Nat) (w w' : World) : Prop := (∃ F', AG w' A ps' F' ∧ ∀ b ∈ F', b ∈ F ∨ w.heap.size ≤ b) ∧ Kp F w w'
def RgPost (R : Nat) (ps' : List (Int × Int)) (F : List Nat) (w w' : World) : Prop := (∃ F', RAG w' R ps' F' ∧ ∀ b ∈ F', b ∈ F ∨ w.heap.size ≤ b) ∧ Kp F w w'
theorem AgPost.same {A : Nat} {ps : List (Int × Int)} {F : List Nat} {w w' : World} (h : AG w A ps F) (hb : Below w.heap.size w w') : AgPost A ps F w w' :=
  ⟨⟨F, h.keep fun b hm => hb.block b (h.lt b hm), fun b hm => .inl hm⟩, (Kp.of_below hb)⟩
theorem RgPost.same {A : Nat} {ps : List (Int × Int)} {F : List Nat} {w w' : World} (h : RAG w A ps F) (hb : Below w.heap.size w w') : RgPost A ps F w w' :=
  ⟨⟨F, h.keep fun b hm => hb.block b (h.lt b hm), fun b hm => .inl hm⟩, (Kp.of_below hb)⟩
theorem both_add (ps : List (Int × Int)) (hok : AgOk ps) (hl : ps.length < 65536) (x y : Int) : ∃ (k : Int) (ps' : List (Int × Int)), AgOk ps' ∧ ps'.length ≤ ps.length + 1 ∧
    (∀ A F w, AG w A ps F → Calls Tryd.prog 8 #[.pointer (some ⟨A, 0, none⟩), .agg #[.int .i64 x, .int .i64 y]] w fun e w' => e = .returned (.int .i64 k) ∧ AgPost A ps' F w w') ∧
    (∀ R F w, RAG w R ps F → Calls Tryd.prog 9 #[.pointer (some ⟨R, 0, none⟩), .agg #[.int .i64 x, .int .i64 y]] w fun e w' => e = .returned (.int .i64 k) ∧ RgPost R ps' F w w') := by
  by_cases hb : x < 0 ∨ y < 0 ∨ x = y
  · exact ⟨1, ps, hok, by omega, fun A F w h => (ag_add_bad A ps F x y w h hb).mono fun e w' ⟨h1, h2⟩ => ⟨h1, .same h h2⟩, fun R F w h => (rag_add_bad R x y w hb).mono fun e w' ⟨h1, h2⟩ => ⟨h1, .same h h2⟩⟩
  · by_cases hin : inAg ps x ∨ inAg ps y
    · exact ⟨21, ps, hok, by omega, fun A F w h => (ag_add_twice A ps F x y w h (by omega) (by omega) (by omega) hin).mono fun e w' ⟨h1, h2⟩ => ⟨h1, .same h h2⟩, fun R F w h => (rag_add_twice R ps F x y w h (by omega) (by omega) (by omega) hin hl).mono fun e w' ⟨h1, h2⟩ => ⟨h1, .same h h2⟩⟩
    · have ox : ¬ inAg ps x := fun h => hin (.inl h)
      have oy : ¬ inAg ps y := fun h => hin (.inr h)
      rcases (by omega : x < y ∨ y < x) with hlt | hlt
      · exact ⟨0, ps ++ [(x, y)], hok.snoc ox oy, by simp, fun A F w h => ag_add_new A ps F x y x y w h (by omega) hlt (.inl ⟨rfl, rfl⟩) ox oy hl, fun R F w h => rag_add_new R ps F x y w x y h (by omega) hlt (.inl ⟨rfl, rfl⟩) ox oy hl⟩
      · exact ⟨0, ps ++ [(y, x)], hok.snoc oy ox, by simp, fun A F w h => ag_add_new A ps F x y y x w h (by omega) hlt (.inr ⟨rfl, rfl⟩) oy ox hl, fun R F w h => rag_add_new R ps F x y w y x h (by omega) hlt (.inr ⟨rfl, rfl⟩) oy ox hl⟩
theorem both_rem (ps : List (Int × Int)) (hok : AgOk ps) (hl : ps.length < 65536) (k : Int) : ∃ (u v c : Int) (ps' : List (Int × Int)), AgOk ps' ∧ ps'.length ≤ ps.length ∧
    (∀ A F w, AG w A ps F → Calls Tryd.prog 10 #[.pointer (some ⟨A, 0, none⟩), .int .i64 k] w fun e w' => e = .returned (.tuple #[.agg #[.int .i64 u, .int .i64 v], .int .i64 c]) ∧ AgPost A ps' F w w') ∧
    (∀ R F w, RAG w R ps F → Calls Tryd.prog 11 #[.pointer (some ⟨R, 0, none⟩), .int .i64 k] w fun e w' => e = .returned (.tuple #[.agg #[.int .i64 u, .int .i64 v], .int .i64 c]) ∧ RgPost R ps' F w w') := by
  by_cases hb : k < 0 ∨ (ps.length : Int) ≤ k
  · exact ⟨0, 0, 1, ps, hok, Nat.le_refl _, fun A F w h => (ag_remove_bad A ps F k w h hb).mono fun e w' ⟨h1, h2⟩ => ⟨h1, .same h h2⟩, fun R F w h => (rag_remove_bad R ps F k w h hb).mono fun e w' ⟨h1, h2⟩ => ⟨h1, .same h h2⟩⟩
  · obtain ⟨j, rfl⟩ := Int.eq_ofNat_of_zero_le (show 0 ≤ k by omega)
    have hj : j < ps.length := by omega
    exact ⟨ps[j].1, ps[j].2, 0, ps.eraseIdx j, hok.erase j, List.length_eraseIdx_le _ _, fun A F w h => ag_remove A ps F j w h hok hj hl, fun R F w h => rag_remove R ps F j w h hj hl⟩
theorem both_pick (ps : List (Int × Int)) (hl : ps.length < 65536) (k : Int) : ∃ (u v j c : Int),
    (∀ A F w, AG w A ps F → Calls Tryd.prog 12 #[.pointer (some ⟨A, 0, none⟩), .int .i64 k] w fun e w' => e = .returned (.tuple #[.agg #[.int .i64 u, .int .i64 v], .int .i64 j, .int .i64 c]) ∧ Below w.heap.size w w') ∧
    (∀ R F w, RAG w R ps F → Calls Tryd.prog 13 #[.pointer (some ⟨R, 0, none⟩), .int .i64 k] w fun e w' => e = .returned (.tuple #[.agg #[.int .i64 u, .int .i64 v], .int .i64 j, .int .i64 c]) ∧ Below w.heap.size w w') := by
  by_cases h0 : ps.length = 0
  · obtain rfl : ps = [] := List.eq_nil_of_length_eq_zero h0
    exact ⟨0, 0, 0, 60, fun A F w h => ag_pick_empty A F k w h, fun R F w h => rag_pick_empty R F k w h⟩
  · have hp : 0 < ps.length := by omega
    exact ⟨(ps[pickI ps.length k]'(pickI_lt hp k)).1, (ps[pickI ps.length k]'(pickI_lt hp k)).2, pickI ps.length k, 0, fun A F w h => ag_pick A ps F k w h hl hp, fun R F w h => rag_pick R ps F k w h hl hp⟩

/-- Both agendas, and boxes that stay. -/
structure ApS (w X : World) (A R : Nat) (B : List (Nat × Obj)) (ps qs : List (Int × Int)) : Prop where
  st : AgSt w X A R (B.map (·.1)) ps qs
  bx : ∀ x ∈ B, X.heap[x.1]? = some x.2
section
variable {w X Y : World} {A R : Nat} {B : List (Nat × Obj)} {ps qs ps' : List (Int × Int)}
theorem ApS.below (h : ApS w X A R B ps qs) (hb : Below X.heap.size X Y) : ApS w Y A R B ps qs := ⟨h.st.below hb, fun x hx => (hb.block _ (heap_lt (h.bx x hx))).trans (h.bx x hx)⟩
theorem ApS.box (h : ApS w X A R B ps qs) (cs : Array Value) (t : TypeId) : ApS w (X.alloc (.cells cs t)) A R ((X.heap.size, .cells cs t (0, 0)) :: B) ps qs := by
  refine ⟨h.st.box _, fun x hx => ?_⟩
  rcases List.mem_cons.1 hx with rfl | hx
  · exact heap_alloc_new X _
  · exact (Below.heap_alloc X _ _ (heap_lt (h.bx x hx))).trans (h.bx x hx)
theorem ApS.less (h : ApS w X A R B ps qs) {B' : List (Nat × Obj)} (hB : ∀ x ∈ B', x ∈ B) : ApS w X A R B' ps qs :=
  ⟨h.st.less (fun b hb => by obtain ⟨x, hx, rfl⟩ := List.mem_map.1 hb; exact List.mem_map.2 ⟨x, hB x hx, rfl⟩), fun x hx => h.bx x (hB x hx)⟩
theorem ApS.callA {f : FuncId} {v : Value} {E : Ending} (h : ApS w X A R B ps qs) (H : ∀ A F w, AG w A ps F → Calls Tryd.prog f #[.pointer (some ⟨A, 0, none⟩), v] w fun e w' => e = E ∧ AgPost A ps' F w w') :
    Calls Tryd.prog f #[.pointer (some ⟨A, 0, none⟩), v] X fun e w' => e = E ∧ ApS w w' A R B ps' qs :=
  (h.st.callA (fun F hF => H A F X hF)).mono fun e w' ⟨h1, h2, h3⟩ => ⟨h1, h2, fun x hx => (h3 x.1 (List.mem_map.2 ⟨x, hx, rfl⟩)).trans (h.bx x hx)⟩
theorem ApS.callR {f : FuncId} {v : Value} {E : Ending} {qs' : List (Int × Int)} (h : ApS w X A R B ps qs) (H : ∀ R F w, RAG w R qs F → Calls Tryd.prog f #[.pointer (some ⟨R, 0, none⟩), v] w fun e w' => e = E ∧ RgPost R qs' F w w') :
    Calls Tryd.prog f #[.pointer (some ⟨R, 0, none⟩), v] X fun e w' => e = E ∧ ApS w w' A R B ps qs' :=
  (h.st.callR (fun F hF => H R F X hF)).mono fun e w' ⟨h1, h2, h3⟩ => ⟨h1, h2, fun x hx => (h3 x.1 (List.mem_map.2 ⟨x, hx, rfl⟩)).trans (h.bx x hx)⟩
theorem ApS.readA {f : FuncId} {v : Value} {E : Ending} (h : ApS w X A R B ps qs) (H : ∀ A F w, AG w A ps F → Calls Tryd.prog f #[.pointer (some ⟨A, 0, none⟩), v] w fun e w' => e = E ∧ Below w.heap.size w w') :
    Calls Tryd.prog f #[.pointer (some ⟨A, 0, none⟩), v] X fun e w' => e = E ∧ ApS w w' A R B ps qs ∧ Below X.heap.size X w' := by
  obtain ⟨F, G, hs⟩ := h.st
  exact (H A F X hs.a).mono fun e w' ⟨h1, h2⟩ => ⟨h1, h.below h2, h2⟩
theorem ApS.readR {f : FuncId} {v : Value} {E : Ending} (h : ApS w X A R B ps qs) (H : ∀ A F w, RAG w A qs F → Calls Tryd.prog f #[.pointer (some ⟨A, 0, none⟩), v] w fun e w' => e = E ∧ Below w.heap.size w w') :
    Calls Tryd.prog f #[.pointer (some ⟨R, 0, none⟩), v] X fun e w' => e = E ∧ ApS w w' A R B ps qs ∧ Below X.heap.size X w' := by
  obtain ⟨F, G, hs⟩ := h.st
  exact (H R G X hs.r).mono fun e w' ⟨h1, h2⟩ => ⟨h1, h.below h2, h2⟩
theorem ApS.readA0 {f : FuncId}  {E : Ending} (h : ApS w X A R B ps qs) (H : ∀ A F w, AG w A ps F → Calls Tryd.prog f #[.pointer (some ⟨A, 0, none⟩)] w fun e w' => e = E ∧ Below w.heap.size w w') :
    Calls Tryd.prog f #[.pointer (some ⟨A, 0, none⟩)] X fun e w' => e = E ∧ ApS w w' A R B ps qs ∧ Below X.heap.size X w' := by
  obtain ⟨F, G, hs⟩ := h.st
  exact (H A F X hs.a).mono fun e w' ⟨h1, h2⟩ => ⟨h1, h.below h2, h2⟩
theorem ApS.bel (h : ApS w X A R B ps qs) : Below w.heap.size w X := by obtain ⟨F, G, hs⟩ := h.st; exact hs.bel
theorem ApS.rcell (h : ApS w X A R B ps qs) : ∃ V c, X.cell? ⟨R, 0, none⟩ = some (.slice V qs.length c) ∧ R < X.heap.size := by
  obtain ⟨F, G, hs⟩ := h.st
  obtain ⟨sv, c0, _, hr, _, hR⟩ := hs.r.head
  obtain ⟨V, c, rfl, _⟩ := hr.len
  exact ⟨V, c, c0, heap_lt hR⟩
theorem cells_of {X : World} {b : Nat} {cs : Array Value} {t : TypeId} (h : X.heap[b]? = some (.cells cs t (0, 0))) (i : Nat) : X.cell? ⟨b, i, none⟩ = cs[i]? := by simp [World.cell?, h]
end
end Go.Proofs.YtkonfogebepccaaDoor
