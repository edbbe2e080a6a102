/-
  Maps that the program makes and keeps: what the operations do, for integer keys and for keys that are compared part by part; and frames.
-/
import Derived.Test.YtogbanlfihabpaaBase
import Derived.Maps.OwnOps
import Derived.Deep.Draws
namespace Go.Proofs.Ytogbanlfihabpaa
open Go.RowKit

/-- Blocks outside F are as they were. -/
structure Kp (F : List Nat) (w w' : World) : Prop where
  os : w'.os = w.os
  tape : w'.tape = w.tape
  output : w'.output = w.output
  size : w.heap.size ≤ w'.heap.size
  block : ∀ k, k < w.heap.size → k ∉ F → w'.heap[k]? = w.heap[k]?

section
variable {F G : List Nat} {w w1 w2 : World}
theorem Kp.refl (F : List Nat) (w : World) : Kp F w w := ⟨rfl, rfl, rfl, Nat.le_refl _, fun _ _ _ => rfl⟩
theorem Kp.trans (h : Kp F w w1) (k : Kp G w1 w2) (hG : ∀ b ∈ G, b ∈ F ∨ w.heap.size ≤ b) : Kp F w w2 :=
  ⟨k.os.trans h.os, k.tape.trans h.tape, k.output.trans h.output, Nat.le_trans h.size k.size, fun b hb hF =>
    (k.block b (Nat.lt_of_lt_of_le hb h.size) (fun hm => (hG b hm).elim hF (fun hge => absurd hb (by omega)))).trans (h.block b hb hF)⟩
theorem Kp.mono (h : Kp F w w1) (hG : ∀ b ∈ F, b ∈ G) : Kp G w w1 := ⟨h.os, h.tape, h.output, h.size, fun b hb hn => h.block b hb (fun hm => hn (hG b hm))⟩
theorem Kp.drew (h : Kp F w w1) : Kp F w w1.drew := ⟨h.os, h.tape, h.output, h.size, h.block⟩
theorem Kp.drewN (h : Kp F w w1) (n : Nat) : Kp F w (w1.drewN n) := ⟨h.os, h.tape, h.output, h.size, h.block⟩
theorem Kp.alloc (h : Kp F w w1) (o : Obj) : Kp F w (w1.alloc o) :=
  ⟨h.os, h.tape, h.output, Nat.le_trans h.size (by simp), fun b hb hn => (Below.heap_alloc w1 o b (Nat.lt_of_lt_of_le hb h.size)).trans (h.block b hb hn)⟩
theorem Kp.setCell (h : Kp F w w1) {p : Addr} (hp : p.block ∈ F ∨ w.heap.size ≤ p.block) (u : Value) : Kp F w (w1.setCell p u) :=
  ⟨h.os, h.tape, h.output, by simpa using h.size, fun b hb hn => (Below.heap_setCell w1 p u b (by
    rintro rfl
    rcases hp with hp | hp
    · exact hn hp
    · omega)).trans (h.block b hb hn)⟩
theorem Kp.of_below (h : Below w.heap.size w w1) : Kp F w w1 := ⟨h.os, h.tape, h.output, h.size, fun b hb _ => h.block b hb⟩
theorem Kp.below (h : Kp F w w1) {B : Nat} (hB : B ≤ w.heap.size) (hF : ∀ b ∈ F, B ≤ b) : Below B w w1 :=
  ⟨h.os, h.tape, h.output, h.size, fun b hb => h.block b (by omega) (fun hm => absurd (hF b hm) (by omega))⟩
theorem Kp.thenBelow (h : Kp F w w1) (k : Below w1.heap.size w1 w2) : Kp F w w2 := h.trans (Kp.of_below (F := []) k) (by simp)
theorem Kp.grown {row : Option Nat} (hg : w.grownBy w1 row) (hr : ∀ k, row = some k → k ∈ F) : Kp F w w1 :=
  ⟨hg.os, hg.tape, hg.output, hg.size, fun b hb hn => hg.block b hb (fun he => hn (hr b he.symm))⟩
theorem Kp.cell (h : Kp F w w1) {p : Addr} (hp : p.block < w.heap.size) (hn : p.block ∉ F) : w1.cell? p = w.cell? p := World.cell?_of_block (h.block _ hp hn)
theorem Kp.frozen (h : Kp F w w1) {p : Addr} (hp : p.block < w.heap.size) (hn : p.block ∉ F) : w1.frozen? p = w.frozen? p := World.frozen?_of_block (h.block _ hp hn)
end

/-! ### A map's block -/
def setMap (w : World) (B : Nat) (es : Array MapEntry) (c : Nat) : World := { w with heap := w.heap.setIfInBounds B (.map es c) }

section
variable {κ : Type} [DecidableEq κ]
def ment (enc : κ → Value) (x : κ × Value × Nat) : MapEntry := ⟨enc x.1, x.2.1, x.2.2⟩
def fnd (a : κ) : List (κ × Value × Nat) → Nat → Option (Nat × Value)
  | [], _ => none
  | x :: r, i => if x.1 = a then some (i, x.2.1) else fnd a r (i + 1)
def mget (E : List (κ × Value × Nat)) (a : κ) : Option Value := (fnd a E 0).map (·.2)

structure KOk (P : Program) (K : TypeId) (enc : κ → Value) : Prop where
  find : ∀ (a : κ) (E : List (κ × Value × Nat)) (W : World), (Instr.findKey K (enc a) (E.map (ment enc))).run P W = .ok (fnd a E 0) W
  chk : ∀ (b : Bool) (a : κ) (W : World), (Instr.checkKey b 10000 K (enc a)).run P W = .ok () W
  same : ∀ a, Instr.sameBits 10000 (enc a) (enc a) = true

theorem fnd_none {a : κ} {E : List (κ × Value × Nat)} {i : Nat} : fnd a E i = none ↔ ∀ x ∈ E, x.1 ≠ a := by
  induction E generalizing i with
  | nil => simp [fnd]
  | cons x r ih =>
    simp only [fnd]
    split
    · rename_i h; simp [h]
    · rename_i h; rw [ih]; simp [h]
theorem fnd_some {a : κ} {E : List (κ × Value × Nat)} {i j : Nat} {v : Value} (h : fnd a E i = some (j, v)) : i ≤ j ∧ ∃ s, E[j - i]? = some (a, v, s) := by
  induction E generalizing i with
  | nil => simp [fnd] at h
  | cons x r ih =>
    simp only [fnd] at h
    split at h
    · rename_i hx
      simp only [Option.some.injEq, Prod.mk.injEq] at h
      obtain ⟨rfl, rfl⟩ := h
      exact ⟨Nat.le_refl _, x.2.2, by simp [← hx]⟩
    · obtain ⟨h1, s, h2⟩ := ih h
      exact ⟨by omega, s, by rw [show j - i = (j - (i + 1)) + 1 by omega]; simpa using h2⟩
theorem fnd_snoc (a : κ) (E : List (κ × Value × Nat)) (x : κ × Value × Nat) (i : Nat) : fnd a (E ++ [x]) i = match fnd a E i with
    | some y => some y
    | none => if x.1 = a then some (i + E.length, x.2.1) else none := by
  induction E generalizing i with
  | nil => simp [fnd]
  | cons y r ih =>
    simp only [List.cons_append, fnd]
    split
    · rfl
    · rw [ih (i + 1)]
      cases fnd a r (i + 1) with
      | some z => rfl
      | none => rw [List.length_cons, show i + 1 + r.length = i + (r.length + 1) by omega]

/-- Keys that are integers. -/
theorem KOk.int {P : Program} {K : TypeId} {kd : IntKind} (hK : P.underlying K = some (.int kd)) : KOk P K (fun n : Int => Value.int kd n) := by
  have hf : ∀ (a : Int) (E : List (Int × Value × Nat)) (i : Nat), Instr.findNow (.int kd) (.int kd a) (E.map (ment fun n => .int kd n)) i = some (fnd a E i) := by
    intro a E
    induction E with
    | nil => intro i; rfl
    | cons x r ih =>
      intro i
      simp only [List.map_cons, Instr.findNow, fnd, ment, Instr.sameNow, if_true]
      by_cases h : x.1 = a
      · simp [h]
      · rw [if_neg h, show (a == x.1) = false from beq_eq_false_iff_ne.2 (fun e => h e.symm)]
        exact ih (i + 1)
  refine ⟨fun a E W => ?_, fun b a W => ?_, fun a => ?_⟩
  · simp [Instr.findKey, run_underlying hK, hf]
  · rw [show (10000 : Nat) = 9999 + 1 from rfl, Instr.checkKey]
    simp [run_underlying hK]
  · simp [Instr.sameBits]

/-- Keys that are compared part by part. -/
theorem KOk.agg {P : Program} {K : TypeId} {fs : Array Field} {enc : κ → Value} (cs : κ → Array Value) (henc : ∀ a, enc a = .agg (cs a)) (hK : P.underlying K = some (.struct fs))
    (heq : ∀ a b W, (Op.equal K (enc a) (enc b)).run P W = .ok (decide (a = b)) W)
    (hchk : ∀ (b : Bool) (a : κ) (W : World), (Instr.checkKey b 10000 K (enc a)).run P W = .ok () W) (hsame : ∀ a, Instr.sameBits 10000 (enc a) (enc a) = true) : KOk P K enc := by
  have hf : ∀ (a : κ) (E : List (κ × Value × Nat)) (i : Nat) (W : World), (Instr.findAsking K (enc a) (E.map (ment enc)) i).run P W = .ok (fnd a E i) W := by
    intro a E
    induction E with
    | nil => intro i W; rfl
    | cons x r ih =>
      intro i W
      simp only [List.map_cons, Instr.findAsking, fnd, ment, Sem.run_bind, heq, Result.andThen_ok]
      by_cases h : x.1 = a
      · subst h; simp
      · rw [if_neg h, decide_eq_false (fun e => h e.symm)]
        simpa using ih (i + 1) W
  refine ⟨fun a E W => ?_, hchk, hsame⟩
  cases E with
  | nil => simp [Instr.findKey, run_underlying hK, Instr.findNow, fnd]
  | cons x r =>
    have : Instr.findNow (.struct fs) (enc a) ((x :: r).map (ment enc)) 0 = none := by
      simp [Instr.findNow, ment, henc, Instr.sameNow]
    simp only [Instr.findKey, Sem.run_bind, run_underlying hK, Result.andThen_ok, this]
    exact hf a (x :: r) 0 W

/-- Block B is a map that gives f. -/
def MP (enc : κ → Value) (w : World) (B : Nat) (f : κ → Option Value) : Prop :=
  ∃ (E : List (κ × Value × Nat)) (c : Nat), w.heap[B]? = some (.map (E.map (ment enc)).toArray c) ∧ (E.map (·.2.2)).Nodup ∧ (∀ x ∈ E, x.2.2 < c) ∧ (E.map (·.1)).Nodup ∧ ∀ a, mget E a = f a
/-- .. and the entry of key a was made at s. -/
def MPs (enc : κ → Value) (w : World) (B : Nat) (f : κ → Option Value) (a : κ) (s : Nat) : Prop :=
  ∃ (E : List (κ × Value × Nat)) (c : Nat), w.heap[B]? = some (.map (E.map (ment enc)).toArray c) ∧ (E.map (·.2.2)).Nodup ∧ (∀ x ∈ E, x.2.2 < c) ∧ (E.map (·.1)).Nodup ∧ (∀ b, mget E b = f b) ∧ ∃ v, (a, v, s) ∈ E
def upd (f : κ → Option Value) (a : κ) (v : Value) : κ → Option Value := fun b => if b = a then some v else f b
variable {enc : κ → Value} {w : World} {B : Nat} {f : κ → Option Value}
theorem MP.lt (h : MP enc w B f) : B < w.heap.size := by
  obtain ⟨E, c, hb, _⟩ := h
  rcases Nat.lt_or_ge B w.heap.size with h | h
  · exact h
  · rw [Array.getElem?_eq_none h] at hb; cases hb
theorem MP.keep {w' : World} (h : MP enc w B f) (hk : w'.heap[B]? = w.heap[B]?) : MP enc w' B f := by
  obtain ⟨E, c, hb, r⟩ := h
  exact ⟨E, c, hk.trans hb, r⟩
theorem MP.made (w : World) : MP enc (w.alloc (.map #[] 0)) w.heap.size (fun _ => none) :=
  ⟨[], 0, heap_alloc_new w _, by simp, by simp, by simp, fun a => rfl⟩
theorem mget_none {E : List (κ × Value × Nat)} {a : κ} : mget E a = none ↔ ∀ x ∈ E, x.1 ≠ a := by
  unfold mget; rw [Option.map_eq_none_iff, fnd_none]

theorem setMap_heap {w : World} {B : Nat} (hB : B < w.heap.size) (es : Array MapEntry) (c : Nat) : (setMap w B es c).heap[B]? = some (.map es c) := by
  simp [setMap, hB]
theorem setMap_kp (w : World) (B : Nat) (es : Array MapEntry) (c : Nat) : Kp [B] w (setMap w B es c) :=
  ⟨rfl, rfl, rfl, by simp [setMap], fun k _ hk => by simp at hk; simp [setMap, Ne.symm hk]⟩

/-- A look-up. -/
theorem MP.lookup {P : Program} {T K E : TypeId} (h : MP enc w B f) (hK : KOk P K enc) (hT : P.underlying T = some (.map K E)) {z : Value} (hz : ∀ W, (zeroValue E).run P W = .ok z W) (a : κ) (ok : Bool) :
    (Instr.lookup T (.map (some B)) (enc a) ok).run P w = .ok (if ok then .tuple #[(f a).getD z, .bool (f a).isSome] else (f a).getD z) w := by
  obtain ⟨l, c, hb, _, _, _, hf⟩ := h
  have hg : (getObj B).run P w = .ok (.map (l.map (ment enc)).toArray c) w := by simp [getObj, Sem.run, hb]
  have := hf a
  unfold mget at this
  cases hfd : fnd a l 0 with
  | none =>
    rw [hfd] at this
    simp only [Option.map_none] at this
    rw [← this]
    cases ok <;> simp [Instr.lookup, run_underlying hT, hg, hK.chk, hK.find, hfd, hz]
  | some y =>
    rw [hfd] at this
    simp only [Option.map_some] at this
    rw [← this]
    cases ok <;> simp [Instr.lookup, run_underlying hT, hg, hK.chk, hK.find, hfd]

theorem mget_snoc {E : List (κ × Value × Nat)} {a b : κ} {v : Value} {s : Nat} (h : mget E a = none) : mget (E ++ [(a, v, s)]) b = upd (mget E) a v b := by
  unfold upd mget at *
  rw [fnd_snoc]
  by_cases hb : b = a
  · subst hb
    rw [if_pos rfl]
    rw [Option.map_eq_none_iff] at h
    rw [h]; simp
  · rw [if_neg hb]
    cases fnd b E 0 with
    | some y => rfl
    | none => simp [Ne.symm hb]

/-- 'm[a] ..= ', the key not there: first the entry .. -/
theorem MP.entry {P : Program} {T K E : TypeId} (h : MP enc w B f) (hK : KOk P K enc) (hT : P.underlying T = some (.map K E)) {z : Value} (hz : ∀ W, (zeroValue E).run P W = .ok z W) {a : κ} (ha : f a = none) :
    ∃ (s : Nat) (w' : World), (Instr.mapEntry T (.map (some B)) (enc a)).run P w = .ok (.tuple #[z, .int .i64 (s : Int)]) w' ∧ MPs enc w' B (upd f a z) a s ∧ Kp [B] w w' ∧ w'.heap.size = w.heap.size := by
  have hlt := h.lt
  obtain ⟨l, c, hb, hn, hc, hk, hf⟩ := h
  have hg : (getObj B).run P w = .ok (.map (l.map (ment enc)).toArray c) w := by simp [getObj, Sem.run, hb]
  have hfn : mget l a = none := (hf a).trans ha
  have hfd : fnd a l 0 = none := by unfold mget at hfn; simpa using hfn
  have hs : ∀ es c', (setObj B (.map es c')).run P w = .ok () (setMap w B es c') := fun es c' => by simp [setObj, Sem.run, hb, setMap]
  refine ⟨c, setMap w B ((l ++ [(a, z, c)]).map (ment enc)).toArray (c + 1), ?_, ⟨l ++ [(a, z, c)], c + 1, setMap_heap hlt _ _, ?_, ?_, ?_, fun b => ?_, z, by simp⟩, setMap_kp _ _ _ _, by simp [setMap]⟩
  · simp [Instr.mapEntry, run_underlying hT, hg, hK.chk, hK.find, hfd, hz, hs, goInt, ment]
  · rw [List.map_append, List.nodup_append]
    refine ⟨hn, by simp, fun x hx y hy => ?_⟩
    simp at hy
    obtain ⟨e, he, rfl⟩ := List.mem_map.1 hx
    have := hc e he
    omega
  · intro x hx
    rcases List.mem_append.1 hx with hx | hx
    · have := hc x hx; omega
    · simp at hx; subst hx; simp
  · rw [List.map_append, List.nodup_append]
    refine ⟨hk, by simp, fun x hx y hy => ?_⟩
    simp at hy
    obtain ⟨e, he, rfl⟩ := List.mem_map.1 hx
    subst hy
    exact mget_none.1 hfn e he
  · rw [mget_snoc hfn]; unfold upd; rw [hf b]

theorem mget_set {E : List (κ × Value × Nat)} {a b : κ} {v u : Value} {s i : Nat} (hi : E[i]? = some (a, v, s)) (hk : (E.map (·.1)).Nodup) :
    mget (E.set i (a, u, s)) b = upd (mget E) a u b := by
  unfold mget upd
  have key : ∀ (E : List (κ × Value × Nat)) (i j : Nat), E[i]? = some (a, v, s) → (E.map (·.1)).Nodup → (fnd b (E.set i (a, u, s)) j).map (·.2) = if b = a then some u else (fnd b E j).map (·.2) := by
    intro E
    induction E with
    | nil => intro i j hi; simp at hi
    | cons x r ih =>
      intro i j hi hk
      cases i with
      | zero =>
        simp only [List.getElem?_cons_zero, Option.some.injEq] at hi
        subst hi
        simp only [List.set_cons_zero, fnd]
        by_cases hb : b = a
        · subst hb; simp
        · simp [hb, Ne.symm hb]
      | succ i =>
        simp only [List.getElem?_cons_succ] at hi
        simp only [List.map_cons, List.nodup_cons] at hk
        simp only [List.set_cons_succ, fnd]
        by_cases hx : x.1 = b
        · have hne : b ≠ a := by
            rintro rfl
            exact hk.1 (by rw [hx]; exact List.mem_map.2 ⟨_, List.mem_of_getElem? hi, rfl⟩)
          rw [if_pos hx, if_neg hne, if_pos hx]
        · rw [if_neg hx, if_neg hx]
          exact ih i (j + 1) hi hk.2
  exact key E i 0 hi hk

omit [DecidableEq κ] in
theorem findIdx_born {E : List (κ × Value × Nat)} {i : Nat} {x : κ × Value × Nat} (hi : E[i]? = some x) (hn : (E.map (·.2.2)).Nodup) :
    (E.map (ment enc)).findIdx? (fun e => (e.born : Int) == (x.2.2 : Int)) = some i := by
  have hlt : i < E.length := by
    rcases Nat.lt_or_ge i E.length with h | h
    · exact h
    · rw [List.getElem?_eq_none h] at hi; cases hi
  have hx : E[i] = x := by rw [List.getElem?_eq_getElem hlt] at hi; simpa using hi
  rw [List.findIdx?_eq_some_iff_getElem]
  refine ⟨by simpa using hlt, by simp [ment, hx], fun j hj => ?_⟩
  have hj' : j < E.length := by omega
  simp only [List.getElem_map, ment, beq_iff_eq]
  intro he
  have he' : E[j].2.2 = E[i].2.2 := by rw [hx]; exact Int.ofNat_inj.1 he
  have h2 := List.pairwise_iff_getElem.1 hn j i (by simpa using hj') (by simpa using hlt) hj
  simp at h2
  exact h2 he'

/-- .. then its value. -/
theorem MPs.store {P : Program} {T : TypeId} {a : κ} {s : Nat} (h : MPs enc w B f a s) (v : Value) :
    ∃ w', (Instr.entryStore T (.map (some B)) (.int .i64 (s : Int)) v).run P w = .ok () w' ∧ MP enc w' B (upd f a v) ∧ Kp [B] w w' ∧ w'.heap.size = w.heap.size := by
  have hlt : B < w.heap.size := by
    obtain ⟨E, c, hb, _⟩ := h
    rcases Nat.lt_or_ge B w.heap.size with h | h
    · exact h
    · rw [Array.getElem?_eq_none h] at hb; cases hb
  obtain ⟨l, c, hb, hn, hc, hk, hf, u, hm⟩ := h
  obtain ⟨i, hi⟩ := List.mem_iff_getElem?.1 hm
  have hg : (getObj B).run P w = .ok (.map (l.map (ment enc)).toArray c) w := by simp [getObj, Sem.run, hb]
  have hs : ∀ es c', (setObj B (.map es c')).run P w = .ok () (setMap w B es c') := fun es c' => by simp [setObj, Sem.run, hb, setMap]
  have hfi := findIdx_born (enc := enc) hi hn
  have hil : i < l.length := by
    rcases Nat.lt_or_ge i l.length with h | h
    · exact h
    · rw [List.getElem?_eq_none h] at hi; cases hi
  have hi' : l[i] = (a, u, s) := by rw [List.getElem?_eq_getElem hil] at hi; simpa using hi
  have hset : ((l.map (ment enc)).modify i fun e => { e with val := v }) = (l.set i (a, v, s)).map (ment enc) := by
    apply List.ext_getElem?
    intro j
    by_cases hj : i = j
    · subst hj; simp [hil, hi', ment]
    · simp [hj]
  have hfi2 : l.findIdx? ((fun e : MapEntry => (e.born : Int) == (s : Int)) ∘ ment enc) = some i := by
    rw [← hfi, List.findIdx?_map]
  refine ⟨setMap w B ((l.set i (a, v, s)).map (ment enc)).toArray c, ?_, ⟨l.set i (a, v, s), c, setMap_heap hlt _ _, ?_, ?_, ?_, fun b => ?_⟩, setMap_kp _ _ _ _, by simp [setMap]⟩
  · simp only [Instr.entryStore, Sem.run_bind, hg, Result.andThen_ok]
    rw [show (asInt (Value.int .i64 (s : Int))).run P w = .ok (s : Int) w from rfl]
    simp [hfi2, hs]
    rw [hset, List.map_set]
  · rw [List.map_set]
    have : (l.map (·.2.2)).set i s = l.map (·.2.2) := by
      apply List.ext_getElem? ; intro j
      by_cases hj : i = j
      · subst hj; simp [hil, hi']
      · simp [hj]
    simpa [this] using hn
  · intro x hx
    rcases List.mem_or_eq_of_mem_set hx with h | rfl
    · exact hc x h
    · exact hc (a, u, s) hm
  · rw [List.map_set]
    have : (l.map (·.1)).set i a = l.map (·.1) := by
      apply List.ext_getElem? ; intro j
      by_cases hj : i = j
      · subst hj; simp [hil, hi']
      · simp [hj]
    simpa [this] using hk
  · rw [mget_set hi hk]; unfold upd; rw [hf b]

/-- 'm[a] = v'. -/
theorem MP.update {P : Program} {T K E : TypeId} (h : MP enc w B f) (hK : KOk P K enc) (hT : P.underlying T = some (.map K E)) (a : κ) (v : Value) :
    ∃ w', (Instr.mapUpdate T (.map (some B)) (enc a) v).run P w = .ok () w' ∧ MP enc w' B (upd f a v) ∧ Kp [B] w w' ∧ w'.heap.size = w.heap.size := by
  have hlt := h.lt
  obtain ⟨l, c, hb, hn, hc, hk, hf⟩ := h
  have hg : (getObj B).run P w = .ok (.map (l.map (ment enc)).toArray c) w := by simp [getObj, Sem.run, hb]
  have hs : ∀ es c', (setObj B (.map es c')).run P w = .ok () (setMap w B es c') := fun es c' => by simp [setObj, Sem.run, hb, setMap]
  cases hfd : fnd a l 0 with
  | none =>
    have hfn : mget l a = none := by unfold mget; rw [hfd]; rfl
    refine ⟨setMap w B ((l ++ [(a, v, c)]).map (ment enc)).toArray (c + 1), ?_, ⟨l ++ [(a, v, c)], c + 1, setMap_heap hlt _ _, ?_, ?_, ?_, fun b => ?_⟩, setMap_kp _ _ _ _, by simp [setMap]⟩
    · simp [Instr.mapUpdate, run_underlying hT, hg, hK.chk, hK.find, hfd, hs, ment]
    · rw [List.map_append, List.nodup_append]
      refine ⟨hn, by simp, fun x hx y hy => ?_⟩
      simp at hy
      obtain ⟨e, he, rfl⟩ := List.mem_map.1 hx
      have := hc e he
      omega
    · intro x hx
      rcases List.mem_append.1 hx with hx | hx
      · have := hc x hx; omega
      · simp at hx; subst hx; simp
    · rw [List.map_append, List.nodup_append]
      refine ⟨hk, by simp, fun x hx y hy => ?_⟩
      simp at hy
      obtain ⟨e, he, rfl⟩ := List.mem_map.1 hx
      subst hy
      exact mget_none.1 hfn e he
    · rw [mget_snoc hfn]; unfold upd; rw [hf b]
  | some y =>
    obtain ⟨i, u⟩ := y
    obtain ⟨_, s, hi⟩ := fnd_some hfd
    simp only [Nat.sub_zero] at hi
    have hil : i < l.length := by
      rcases Nat.lt_or_ge i l.length with h | h
      · exact h
      · rw [List.getElem?_eq_none h] at hi; cases hi
    have hi' : l[i] = (a, u, s) := by rw [List.getElem?_eq_getElem hil] at hi; simpa using hi
    have hset : ((l.map (ment enc)).toArray.modify i fun e => { e with key := enc a, val := v }) = ((l.set i (a, v, s)).map (ment enc)).toArray := by
      apply Array.ext'
      simp only [Array.toList_modify, List.map_set]
      apply List.ext_getElem?
      intro j
      by_cases hj : i = j
      · subst hj; simp [hil, hi', ment]
      · simp [hj]
    have hks : (Instr.keyThatStays ((((l.map (ment enc)).toArray[i]?).map (·.key)).getD (enc a)) (enc a)).run P w = .ok (enc a) w := by
      simp [hi, ment, Instr.keyThatStays, hK.same]
    refine ⟨setMap w B ((l.set i (a, v, s)).map (ment enc)).toArray c, ?_, ⟨l.set i (a, v, s), c, setMap_heap hlt _ _, ?_, ?_, ?_, fun b => ?_⟩, setMap_kp _ _ _ _, by simp [setMap]⟩
    · simp only [Instr.mapUpdate, Sem.run_bind, run_underlying hT, Result.andThen_ok, hg, hK.chk, hK.find, hfd, hks, hset, hs]
    · rw [List.map_set]
      have : (l.map (·.2.2)).set i s = l.map (·.2.2) := by
        apply List.ext_getElem? ; intro j
        by_cases hj : i = j
        · subst hj; simp [hil, hi']
        · simp [hj]
      simpa [this] using hn
    · intro x hx
      rcases List.mem_or_eq_of_mem_set hx with h | rfl
      · exact hc x h
      · exact hc (a, u, s) (List.mem_of_getElem? hi)
    · rw [List.map_set]
      have : (l.map (·.1)).set i a = l.map (·.1) := by
        apply List.ext_getElem? ; intro j
        by_cases hj : i = j
        · subst hj; simp [hil, hi']
        · simp [hj]
      simpa [this] using hk
    · rw [mget_set hi hk]; unfold upd; rw [hf b]
end
end Go.Proofs.Ytogbanlfihabpaa
