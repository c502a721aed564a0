/- A range over a function that itself ranges over a function: the contract of such an iterator (SeqC), and the walk of a loop over it. -/
import Derived.RangeFuncBox
import Derived.RangeFuncCalls
import Derived.Scope
namespace Go.Proofs.YtpcmbnbdppembaaGreatDoor
set_option linter.unusedSimpArgs false
set_option linter.unusedVariables false
open Go.RowKit
variable {P : Program}

/-- What a caller brings abides blocks that are no cells and were laid since the call; a round turns no such block. -/
def SeqC {α : Type} (n : Nat) (P : Program) (g : Nat) (lb : Array Value) (encs : α → Array Value) (Kp : World → World → Prop) (N : Nat) (ys : List α) (w : World) : Prop :=
  ∀ (l : Nat) (J Jx : List α → World → Prop) (W : World), Below w.heap.size w W → OwnFrom W.heap.size J → OwnFrom W.heap.size Jx →
    (∀ pre x W1, J pre W1 → pre.length < N → YieldAt Fence.wide (n - 1) P l (encs x) W1 fun e W' => KeepsFrom W.heap.size W1 W' ∧
      ((e = .returned (.bool true) ∧ J (pre ++ [x]) W' ∧ Kp W1 W') ∨ (e = .returned (.bool false) ∧ Jx (pre ++ [x]) W'))) →
    J [] W →
    CallsIn Fence.wide n P g (#[.func (.yield l) #[] #[]] ++ lb) W fun e W' => (∃ v, e = .returned v) ∧ ((∃ xs, xs = ys ∧ J xs W') ∨ (∃ pre, pre <+: ys ∧ Jx pre W'))

/-- a loop's own two blocks: its record, and the one for deferred calls -/
structure Book (D : Nat) (r : Loop) (W : World) : Prop where
  rc : W.heap[D + 1]? = some (.loop r)
  def0 : W.heap[D]? = some (.deferred (some []))

theorem Book.from {B D : Nat} {r : Loop} {W W' : World} (h : Book D r W) (hB : B ≤ D) (hk : KeepsFrom B W W') : Book D r W' :=
  ⟨hk.same _ _ (by omega) h.rc rfl, hk.same _ _ hB h.def0 rfl⟩
theorem Book.turn {D : Nat} {r : Loop} (r' : Loop) {W : World} (h : Book D r W) : Book D r' (W.putObj (D + 1) (.loop r')) :=
  ⟨World.putObj_heap_same (Array.getElem?_eq_some_iff.1 h.rc).1, (World.putObj_heap_other (by omega)).trans h.def0⟩
theorem Book.lt {D : Nat} {r : Loop} {W : World} (h : Book D r W) : D + 1 < W.heap.size := (Array.getElem?_eq_some_iff.1 h.rc).1

/-- a turn of blocks beyond the two leaves them -/
theorem Book.grown {D : Nat} {r : Loop} {W W' : World} {row : Option Nat} (h : Book D r W) (hg : W.grownBy W' row) (hr : ∀ k, row = some k → D + 2 ≤ k) : Book D r W' := by
  have hl := h.lt
  exact ⟨(hg.block (D + 1) hl (fun e => by have := hr _ e.symm; omega)).trans h.rc, (hg.block D (by omega) (fun e => by have := hr _ e.symm; omega)).trans h.def0⟩

theorem keepsFrom_put {B D : Nat} (W : World) (o : Obj) (hB : D < B) : KeepsFrom B W (W.putObj D o) :=
  KeepsFrom.of_grownBy (grownBy_putObj' W D o) (fun j e => by cases e; exact hB)

/-- THE WALK OF A LOOP OVER SUCH AN ITERATOR. -/
theorem wpIn_rangeC {α : Type} {g : Operand} {ps : Array Tmp} {assign body : Code} {Q : Exit → Act → World → Prop} {a : Act} {w w0 : World} {n : Nat}
    (h1 : 1 ≤ n) {gf : Nat} {lb : Array Value} (hg : a.eval g = .func (.func gf) #[] lb) (eg : ∀ args w, (callFunc gf args).run P w = .ok (.enter gf args) w)
    {encs : α → Array Value} {Kp : World → World → Prop} {N : Nat} {ys : List α} (hseq : SeqC (n - 1) P gf lb encs Kp N ys w0)
    (hKt : ∀ {A B C : World}, Kp A B → Kp B C → Kp A C) (hKb : ∀ (W : World) (l : Nat) (o o' : Obj), w.heap.size ≤ l → W.heap[l]? = some o → o.isCells = false → o.isWalk = false → Kp W (W.putObj l o'))
    (hb0 : Below w0.heap.size w0 w) (hps : ∀ x, (encs x).size = ps.size)
    (I : List α → World → Prop) (Ix : Code → List α → World → Prop) (hI : OwnFrom w.heap.size I) (hIx : ∀ c, OwnFrom w.heap.size (Ix c)) (h0 : I [] w) (a₁ : α → Act)
    (hassign : ∀ (l : Nat) (x : α) (W : World) (K : Act → World → Prop), K (a₁ x) W →
      assign.wpIn (Fence.wide.inRound l) (n - 1 - 1) P (Exit.then K (fun _ _ _ => False)) { tmps := (ps.zip (encs x)).foldl (fun t (p, v) => t.setIfInBounds p v) a.tmps, defers := [] } W)
    (hbody : ∀ (l : Nat) (pre : List α) (x : α) (W : World), I pre W → pre.length < N → body.wpIn (Fence.wide.inRound l) (n - 1 - 1) P (ownPostG w.heap.size Kp I Ix (pre ++ [x]) W) (a₁ x) W)
    (hdone : ∀ (D : Nat) (W : World), w.heap.size ≤ D → I ys W → W.heap[D]? = some (.deferred (some [])) → Q .normal { a with defers := { target := .collected D, args := #[] } :: a.defers } W)
    (hstop : ∀ (D : Nat) (c : Code) (pre : List α) (W : World), w.heap.size ≤ D → pre <+: ys → Ix c pre W → W.heap[D]? = some (.deferred (some [])) → c.wpIn Fence.wide n P Q { a with defers := { target := .collected D, args := #[] } :: a.defers } W) :
    (Code.rangeFunc g ps assign body).wpIn Fence.wide n P Q a w := by
  refine wpIn_rangeFunc fun fn hfn => ?_
  obtain ⟨R, hR⟩ : ∃ R : LoopState → Option Code → Loop, ∀ st pe, R st pe = { state := st, pending := pe, fn, tmps := a.tmps, params := ps, assign, body, defers := w.heap.size } := ⟨_, fun _ _ => rfl⟩
  obtain ⟨W1, hW1⟩ : ∃ W1, W1 = (w.alloc (.deferred (some []))).alloc (.loop (R .ready none)) := ⟨_, rfl⟩
  have hsz : W1.heap.size = w.heap.size + 2 := by rw [hW1]; simp
  have hbk : Book w.heap.size (R .ready none) W1 := by
    rw [hW1]
    refine ⟨?_, (Below.heap_alloc _ _ _ (by simp)).trans (World.alloc_heap_new w _)⟩
    have := World.alloc_heap_new (w.alloc (.deferred (some []))) (.loop (R .ready none))
    rwa [World.size_alloc] at this
  have hI1 : I [] W1 := by rw [hW1]; exact hI.alloc _ (hI.alloc _ h0)
  have hb1 : Below w0.heap.size w0 W1 := by
    rw [hW1]; exact hb0.trans ((((Below.refl _ w).alloc (Nat.le_refl _) _).alloc (by simp) _).mono hb0.size)
  refine ⟨w.heap.size + 1, [{ target := .collected w.heap.size, args := #[] }], W1, { target := .fn (.func gf) lb, args := #[.func (.yield (w.heap.size + 1)) #[] #[]] }, W1, gf,
    #[.func (.yield (w.heap.size + 1)) #[] #[]] ++ lb, W1, ?_, ?_, fun _ _ => trivial, ?_, fun _ => h1, ?_⟩
  · rw [hW1, hR]; exact run_enterLoop_outer _ _ _ _ _
  · simp only [resolve, hg]
    simp [go_sem]
  · simp [invoke, go_sem, eg]
  have tr : ∀ {A B : World} {row : Option Nat}, (∀ r, row = some r → W1.heap.size ≤ r ∧ ∃ o : Obj, A.heap[r]? = some o ∧ o.isCells = false) → (∀ r, row = some r → w.heap.size ≤ r ∧ ∃ o : Obj, A.heap[r]? = some o ∧ o.isCells = false) :=
    fun hr r e => ⟨by have := (hr r e).1; omega, (hr r e).2⟩
  refine (hseq (w.heap.size + 1) (fun pre W => I pre W ∧ Book w.heap.size (R .ready none) W) (fun pre W => ∃ c, Ix c pre W ∧ Book w.heap.size (R .done (some c)) W) W1 hb1
    (fun s A B row hs hg' hr => ⟨hI s A B row hs.1 hg' (tr (B := B) hr), hs.2.grown hg' (fun k e => by have := (hr k e).1; omega)⟩)
    (fun s A B row hs hg' hr => by
      obtain ⟨c, hc, hk⟩ := hs
      exact ⟨c, hIx c s A B row hc hg' (tr (B := B) hr), hk.grown hg' (fun k e => by have := (hr k e).1; omega)⟩)
    ?_ ⟨hI1, hbk⟩).mono ?_
  · rintro pre x W ⟨hi, hk⟩ hlen
    have hy := run_yield (P := P) (args := encs x) hk.rc (by rw [hR]; exact hps x)
    rw [hR] at hy
    refine ⟨fn, _, assign, body, hy, roundIn_of_wpIn hfn (hassign _ x W _ ?_)⟩
    clear hy
    refine ⟨_, run_beginRound hk.rc (by rw [hR]), ?_⟩
    have hbusy : ({ R .ready none with state := .busy } : Loop) = R .busy none := by rw [hR, hR]
    rw [hbusy]
    have hk2 := hk.turn (R .busy none)
    have hw2 : Kp W (W.putObj (w.heap.size + 1) (.loop (R .busy none))) := hKb _ _ _ _ (by omega) hk.rc rfl rfl
    have hf2 : KeepsFrom W1.heap.size W (W.putObj (w.heap.size + 1) (.loop (R .busy none))) := keepsFrom_put W _ (by omega)
    refine wpIn_mono (hbody _ pre x _ (hI.putObj _ hi (by omega) hk.rc rfl) hlen) ?_
    have fin : ∀ (jump : Option Code) (W3 : World), KeepsFrom w.heap.size (W.putObj (w.heap.size + 1) (.loop (R .busy none))) W3 →
        ∃ W4, (Instr.endRound (w.heap.size + 1) jump).run P W3 = .ok (.bool jump.isNone) W4 ∧ Book w.heap.size (R (if jump.isNone then .ready else .done) jump) W4 ∧ KeepsFrom W1.heap.size W W4 ∧
          (∀ J : List α → World → Prop, OwnFrom w.heap.size J → ∀ s, J s W3 → J s W4) ∧ Kp W3 W4 := fun jump W3 hk3 => by
      have h3 := hk2.from (Nat.le_refl _) hk3
      have hr := run_endRound (P := P) jump h3.rc
      have hrec : ({ R .busy none with state := if jump.isNone then .ready else .done, pending := jump } : Loop) = R (if jump.isNone then .ready else .done) jump := by rw [hR, hR]
      rw [hrec] at hr
      refine ⟨_, hr, h3.turn _, (hf2.trans ⟨hk3.size, fun k o hB ho hc => hk3.same k o (by omega) ho hc⟩).trans (keepsFrom_put W3 _ (by omega)), fun J hJ s hs => hJ.putObj _ hs (by omega) h3.rc rfl, hKb _ _ _ _ (by omega) h3.rc rfl rfl⟩
    rintro e a3 W3 hp
    cases e with
    | normal =>
      obtain ⟨hk3, hkp3, hi3⟩ := hp
      obtain ⟨W4, hr, hb4, hf4, hJ4, hKp4⟩ := fin none W3 hk3
      exact ⟨_, _, hr, hf4, .inl ⟨rfl, ⟨hJ4 I hI _ hi3, hb4⟩, hKt (hKt hw2 hkp3) hKp4⟩⟩
    | ret =>
      obtain ⟨hk3, hi3⟩ := hp
      obtain ⟨W4, hr, hb4, hf4, hJ4, hKp4⟩ := fin (some .ret) W3 hk3
      exact ⟨_, _, hr, hf4, .inr ⟨rfl, _, hJ4 _ (hIx _) _ hi3, hb4⟩⟩
    | exit id =>
      obtain ⟨hk3, hi3⟩ := hp
      obtain ⟨W4, hr, hb4, hf4, hJ4, hKp4⟩ := fin (some (.exit id)) W3 hk3
      exact ⟨_, _, hr, hf4, .inr ⟨rfl, _, hJ4 _ (hIx _) _ hi3, hb4⟩⟩
    | goto t =>
      obtain ⟨hk3, hi3⟩ := hp
      obtain ⟨W4, hr, hb4, hf4, hJ4, hKp4⟩ := fin (some (.goto t)) W3 hk3
      exact ⟨_, _, hr, hf4, .inr ⟨rfl, _, hJ4 _ (hIx _) _ hi3, hb4⟩⟩
    | panic ch => exact hp.elim
    | outgrown => exact hp.elim
  · rintro e W2 ⟨⟨v, rfl⟩, (⟨xs, rfl, hi, hk⟩ | ⟨pre, hSp, c, hi, hk⟩)⟩
    · have hend := run_endLoop (P := P) hk.rc (by rw [hR]; simp)
      rw [show (R .ready none).pending = none by rw [hR]] at hend
      exact ⟨none, _, hend, hdone _ _ (Nat.le_refl _) (hI.putObj _ hi (by omega) hk.rc rfl) ((World.putObj_heap_other (by omega)).trans hk.def0)⟩
    · have hend := run_endLoop (P := P) hk.rc (by rw [hR]; simp)
      rw [show (R .done (some c)).pending = some c by rw [hR]] at hend
      exact ⟨some c, _, hend, hstop _ c pre _ (Nat.le_refl _) hSp ((hIx c).putObj _ hi (by omega) hk.rc rfl) ((World.putObj_heap_other (by omega)).trans hk.def0)⟩

/-- in a round, and at whatever depth: the wide fence asks nothing -/
theorem roundIn_wide {n m l l' : Nat} {f : FuncId} {tmps : Array Value} {assign body : Code} {w : World} {R : Ending → World → Prop} (h : RoundIn Fence.wide n P l f tmps assign body w R) : RoundIn (Fence.wide.inRound l') m P l f tmps assign body w R :=
  ⟨trivial, fun c cs _ => h.2 c cs (room_wide _)⟩

/-! ### A scope with labels, gone through without a jump back, in a frame of whatever fence -/
section
variable {F : Fence} {n : Nat} {a : Act} {w : World} {Q : Exit → Act → World → Prop}
theorem stepR_scope {b : Frame} {k : List Item} {cs : List Frame} {c : Code} : step P (lone (b.atR a (.code (.scope c) :: k)) cs w) = .next (lone (b.atR a (.code c :: .inScope c :: k)) cs w) :=
  step_lone_go (by simp [stepG, stepG.exec, Frame.atR])
theorem stepR_inScope {b : Frame} {k : List Item} {cs : List Frame} {c : Code} : step P (lone (b.atR a (.inScope c :: k)) cs w) = .next (lone (b.atR a k) cs w) :=
  step_lone_go (by simp [stepG, stepG.exec, Frame.atR])

theorem wpIn_scope {c : Code} (h : c.wpIn F n P (Exit.noGoto Q) a w) : (Code.scope c).wpIn F n P Q a w := by
  intro b k cs hro hb hr
  have h0 : (lone (b.atR a (.code (.scope c) :: k)) cs w).fenced P F := fenced_calm hb hr rfl
  obtain ⟨e, a₁, w₁, hq, harr⟩ := h b (.inScope c :: k) cs hro hb hr
  cases e with
  | normal => exact ⟨.normal, a₁, w₁, hq, .head h0 stepR_scope (StepsIn.trans harr (.one (fenced_calm hb hr rfl) stepR_inScope))⟩
  | exit id =>
    have hx : exitTo id (.inScope c :: k) = exitTo id k := by simp [exitTo]
    exact ⟨_, a₁, w₁, hq, fun k' hk => .head h0 stepR_scope (harr.1 k' (by rw [hx]; exact hk)),
      fun hr' hk => let ⟨k₁, h1, h2⟩ := harr.2 hr' (by rw [hx]; exact hk); ⟨k₁, h1, .head h0 stepR_scope h2⟩⟩
  | goto l => exact hq.elim
  | ret => exact ⟨_, a₁, w₁, hq, .of_steps (.one h0 stepR_scope) harr⟩
  | panic ch => exact ⟨_, a₁, w₁, hq, .of_steps (.one h0 stepR_scope) harr⟩
  | outgrown => exact ⟨_, a₁, w₁, hq, .of_steps (.one h0 stepR_scope) harr⟩
end
end Go.Proofs.YtpcmbnbdppembaaGreatDoor
