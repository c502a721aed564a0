/- A range over a function whose loop variable lies in memory. -/
import Derived.Test.YtpcmbnbdppembaaGreatDoorSeqC
namespace Go.Proofs.YtpcmbnbdppembaaGreatDoor
set_option linter.unusedSimpArgs false
set_option linter.unusedVariables false
open Go.RowKit
variable {P : Program}

/-- THE WALK OF A LOOP OVER SUCH AN ITERATOR, WHOSE VARIABLE LIES IN MEMORY: each round lays one block for it. -/
theorem wpIn_rangeB {α : Type} {g : Operand} {ps : Array Tmp} {assign body : Code} {Q : Exit → Act → World → Prop} {a : Act} {w w0 : World} {n : Nat}
    (h1 : 1 ≤ n) {gf : Nat} {lb : Array Value} (hg : a.eval g = .func (.func gf) #[] lb) (eg : ∀ args w, (callFunc gf args).run P w = .ok (.enter gf args) w)
    {encs : α → Array Value} {Kp : World → World → Prop} {N : Nat} {ys : List α} (hseq : SeqC (n - 1) P gf lb encs Kp N ys w0)
    (hKt : ∀ {A B C : World}, Kp A B → Kp B C → Kp A C) (hKb : ∀ (W : World) (l : Nat) (o o' : Obj), w.heap.size ≤ l → W.heap[l]? = some o → o.isCells = false → o.isWalk = false → Kp W (W.putObj l o'))
    (hb0 : Below w0.heap.size w0 w) (hps : ∀ x, (encs x).size = ps.size)
    (I : List α → World → Prop) (Ix : Code → List α → World → Prop) (hI : OwnFrom w.heap.size I) (hIx : ∀ c, OwnFrom w.heap.size (Ix c)) (h0 : I [] w) (a₁ : α → Nat → Act) (ob : α → Obj)
    (hassign : ∀ (l : Nat) (x : α) (W : World) (K : Act → World → Prop), K (a₁ x W.heap.size) (W.alloc (ob x)) →
      assign.wpIn (Fence.wide.inRound l) (n - 1 - 1) P (Exit.then K (fun _ _ _ => False)) { tmps := (ps.zip (encs x)).foldl (fun t (p, v) => t.setIfInBounds p v) a.tmps, defers := [] } W)
    (hbody : ∀ (l : Nat) (pre : List α) (x : α) (W0 W : World), I pre W0 → I pre W → pre.length < N → W.heap[W0.heap.size]? = some (ob x) → w.heap.size ≤ W0.heap.size → (∀ (k : Nat) (o : Obj), W0.heap[k]? = some o → o.isCells = true → W.heap[k]? = some o) → W0.heap.size ≤ W.heap.size →
      body.wpIn (Fence.wide.inRound l) (n - 1 - 1) P (ownPostG w.heap.size (fun _ W' => Kp W0 W') I Ix (pre ++ [x]) W) (a₁ x W0.heap.size) W)
    (hdone : ∀ (D : Nat) (W : World), w.heap.size ≤ D → I ys W → W.heap[D]? = some (.deferred (some [])) → Q .normal { a with defers := { target := .collected D, args := #[] } :: a.defers } W)
    (hstop : ∀ (D : Nat) (c : Code) (pre : List α) (W : World), w.heap.size ≤ D → pre <+: ys → Ix c pre W → W.heap[D]? = some (.deferred (some [])) → c.wpIn Fence.wide n P Q { a with defers := { target := .collected D, args := #[] } :: a.defers } W) :
    (Code.rangeFunc g ps assign body).wpIn Fence.wide n P Q a w := by
  refine wpIn_rangeFunc fun fn hfn => ?_
  obtain ⟨R, hR⟩ : ∃ R : LoopState → Option Code → Loop, ∀ st pe, R st pe = { state := st, pending := pe, fn, tmps := a.tmps, params := ps, assign, body, defers := w.heap.size } := ⟨_, fun _ _ => rfl⟩
  obtain ⟨W1, hW1⟩ : ∃ W1, W1 = (w.alloc (.deferred (some []))).alloc (.loop (R .ready none)) := ⟨_, rfl⟩
  have hsz : W1.heap.size = w.heap.size + 2 := by rw [hW1]; simp
  have hbk : Book w.heap.size (R .ready none) W1 := by
    rw [hW1]
    refine ⟨?_, (Below.heap_alloc _ _ _ (by simp)).trans (World.alloc_heap_new w _)⟩
    have := World.alloc_heap_new (w.alloc (.deferred (some []))) (.loop (R .ready none))
    rwa [World.size_alloc] at this
  have hI1 : I [] W1 := by rw [hW1]; exact hI.alloc _ (hI.alloc _ h0)
  have hb1 : Below w0.heap.size w0 W1 := by
    rw [hW1]; exact hb0.trans ((((Below.refl _ w).alloc (Nat.le_refl _) _).alloc (by simp) _).mono hb0.size)
  refine ⟨w.heap.size + 1, [{ target := .collected w.heap.size, args := #[] }], W1, { target := .fn (.func gf) lb, args := #[.func (.yield (w.heap.size + 1)) #[] #[]] }, W1, gf,
    #[.func (.yield (w.heap.size + 1)) #[] #[]] ++ lb, W1, ?_, ?_, fun _ _ => trivial, ?_, fun _ => h1, ?_⟩
  · rw [hW1, hR]; exact run_enterLoop_outer _ _ _ _ _
  · simp only [resolve, hg]
    simp [go_sem]
  · simp [invoke, go_sem, eg]
  have tr : ∀ {A B : World} {row : Option Nat}, (∀ r, row = some r → W1.heap.size ≤ r ∧ ∃ o : Obj, A.heap[r]? = some o ∧ o.isCells = false) → (∀ r, row = some r → w.heap.size ≤ r ∧ ∃ o : Obj, A.heap[r]? = some o ∧ o.isCells = false) :=
    fun hr r e => ⟨by have := (hr r e).1; omega, (hr r e).2⟩
  refine (hseq (w.heap.size + 1) (fun pre W => I pre W ∧ Book w.heap.size (R .ready none) W) (fun pre W => ∃ c, Ix c pre W ∧ Book w.heap.size (R .done (some c)) W) W1 hb1
    (fun s A B row hs hg' hr => ⟨hI s A B row hs.1 hg' (tr (B := B) hr), hs.2.grown hg' (fun k e => by have := (hr k e).1; omega)⟩)
    (fun s A B row hs hg' hr => by
      obtain ⟨c, hc, hk⟩ := hs
      exact ⟨c, hIx c s A B row hc hg' (tr (B := B) hr), hk.grown hg' (fun k e => by have := (hr k e).1; omega)⟩)
    ?_ ⟨hI1, hbk⟩).mono ?_
  · rintro pre x W ⟨hi, hk⟩ hlen
    have hy := run_yield (P := P) (args := encs x) hk.rc (by rw [hR]; exact hps x)
    rw [hR] at hy
    refine ⟨fn, _, assign, body, hy, roundIn_of_wpIn hfn (hassign _ x W _ ?_)⟩
    clear hy
    obtain ⟨V, hV⟩ : ∃ V, V = W.alloc (ob x) := ⟨_, rfl⟩
    have hlD := hk.lt
    have hsV : V.heap.size = W.heap.size + 1 := by rw [hV]; simp
    have hkV : Book w.heap.size (R .ready none) V := by
      rw [hV]
      exact ⟨(Below.heap_alloc _ _ _ hk.lt).trans hk.rc, (Below.heap_alloc _ _ _ (by omega)).trans hk.def0⟩
    have hiV : I pre V := by rw [hV]; exact hI.alloc _ hi
    have hf1 : KeepsFrom W1.heap.size W V := by
      rw [hV]
      exact ⟨by simp, fun k o hB ho hc => (Below.heap_alloc _ _ _ (Array.getElem?_eq_some_iff.1 ho).1).trans ho⟩
    have hVn : V.heap[W.heap.size]? = some (ob x) := by rw [hV]; exact World.alloc_heap_new W (ob x)
    have hVo : ∀ k o, W.heap[k]? = some o → V.heap[k]? = some o := fun k o ho => by rw [hV]; exact (Below.heap_alloc _ _ _ (Array.getElem?_eq_some_iff.1 ho).1).trans ho
    rw [← hV]
    refine ⟨_, run_beginRound hkV.rc (by rw [hR]), ?_⟩
    have hbusy : ({ R .ready none with state := .busy } : Loop) = R .busy none := by rw [hR, hR]
    rw [hbusy]
    have hk2 := hkV.turn (R .busy none)
    have hf2 : KeepsFrom W1.heap.size W (V.putObj (w.heap.size + 1) (.loop (R .busy none))) := hf1.trans (keepsFrom_put V _ (by omega))
    refine wpIn_mono (hbody _ pre x W _ hi (hI.putObj _ hiV (by omega) hkV.rc rfl) hlen ((World.putObj_heap_other (by omega)).trans hVn) (by omega) (fun k o ho hc => ?_) (by rw [World.putObj_size, hsV]; omega)) ?_
    · have hne : k ≠ w.heap.size + 1 := fun e => by
        subst e
        rw [hk.rc] at ho
        cases ho
        cases hc
      exact (World.putObj_heap_other (by omega)).trans (hVo k o ho)
    have fin : ∀ (jump : Option Code) (W3 : World), KeepsFrom w.heap.size (V.putObj (w.heap.size + 1) (.loop (R .busy none))) W3 →
        ∃ W4, (Instr.endRound (w.heap.size + 1) jump).run P W3 = .ok (.bool jump.isNone) W4 ∧ Book w.heap.size (R (if jump.isNone then .ready else .done) jump) W4 ∧ KeepsFrom W1.heap.size W W4 ∧
          (∀ J : List α → World → Prop, OwnFrom w.heap.size J → ∀ s, J s W3 → J s W4) ∧ Kp W3 W4 := fun jump W3 hk3 => by
      have h3 := hk2.from (Nat.le_refl _) hk3
      have hr := run_endRound (P := P) jump h3.rc
      have hrec : ({ R .busy none with state := if jump.isNone then .ready else .done, pending := jump } : Loop) = R (if jump.isNone then .ready else .done) jump := by rw [hR, hR]
      rw [hrec] at hr
      refine ⟨_, hr, h3.turn _, (hf2.trans ⟨hk3.size, fun k o hB ho hc => hk3.same k o (by omega) ho hc⟩).trans (keepsFrom_put W3 _ (by omega)), fun J hJ s hs => hJ.putObj _ hs (by omega) h3.rc rfl, hKb _ _ _ _ (by omega) h3.rc rfl rfl⟩
    rintro e a3 W3 hp
    cases e with
    | normal =>
      obtain ⟨hk3, hkp3, hi3⟩ := hp
      obtain ⟨W4, hr, hb4, hf4, hJ4, hKp4⟩ := fin none W3 hk3
      exact ⟨_, _, hr, hf4, .inl ⟨rfl, ⟨hJ4 I hI _ hi3, hb4⟩, hKt hkp3 hKp4⟩⟩
    | ret =>
      obtain ⟨hk3, hi3⟩ := hp
      obtain ⟨W4, hr, hb4, hf4, hJ4, hKp4⟩ := fin (some .ret) W3 hk3
      exact ⟨_, _, hr, hf4, .inr ⟨rfl, _, hJ4 _ (hIx _) _ hi3, hb4⟩⟩
    | exit id =>
      obtain ⟨hk3, hi3⟩ := hp
      obtain ⟨W4, hr, hb4, hf4, hJ4, hKp4⟩ := fin (some (.exit id)) W3 hk3
      exact ⟨_, _, hr, hf4, .inr ⟨rfl, _, hJ4 _ (hIx _) _ hi3, hb4⟩⟩
    | goto t =>
      obtain ⟨hk3, hi3⟩ := hp
      obtain ⟨W4, hr, hb4, hf4, hJ4, hKp4⟩ := fin (some (.goto t)) W3 hk3
      exact ⟨_, _, hr, hf4, .inr ⟨rfl, _, hJ4 _ (hIx _) _ hi3, hb4⟩⟩
    | panic ch => exact hp.elim
    | outgrown => exact hp.elim
  · rintro e W2 ⟨⟨v, rfl⟩, (⟨xs, rfl, hi, hk⟩ | ⟨pre, hSp, c, hi, hk⟩)⟩
    · have hend := run_endLoop (P := P) hk.rc (by rw [hR]; simp)
      rw [show (R .ready none).pending = none by rw [hR]] at hend
      exact ⟨none, _, hend, hdone _ _ (Nat.le_refl _) (hI.putObj _ hi (by omega) hk.rc rfl) ((World.putObj_heap_other (by omega)).trans hk.def0)⟩
    · have hend := run_endLoop (P := P) hk.rc (by rw [hR]; simp)
      rw [show (R .done (some c)).pending = some c by rw [hR]] at hend
      exact ⟨some c, _, hend, hstop _ c pre _ (Nat.le_refl _) hSp ((hIx c).putObj _ hi (by omega) hk.rc rfl) ((World.putObj_heap_other (by omega)).trans hk.def0)⟩
end Go.Proofs.YtpcmbnbdppembaaGreatDoor
