/- Arcs of the ring in plain Lean: which points they have, when two have none in common, their pieces. -/
import Derived.Test.YtpcmbnbdppembaaGreatDoorHeap
namespace Go.Proofs.YtpcmbnbdppembaaGreatDoor
set_option linter.unusedSimpArgs false
set_option linter.unusedVariables false

/-- an arc: from f on, up to t -/
structure Arc where
  f : Int
  t : Int

def Pt64 (x : Int) : Prop := 0 ≤ x ∧ x < 18446744073709551616
def Arc.ok (a : Arc) : Prop := Pt64 a.f ∧ Pt64 a.t

def inA (a : Arc) (x : Int) : Bool := a.f == a.t || decide ((x - a.f) % 18446744073709551616 < (a.t - a.f) % 18446744073709551616)
def apartA (a b : Arc) : Bool := !inA a b.f && !inA b a.f
def piecesA (a : Arc) : List Arc := if a.t = 0 ∨ a.f < a.t then [a] else [⟨a.f, 0⟩, ⟨0, a.t⟩]
/-- a point in a piece that does not go over the end -/
def hasP (p : Arc) (x : Int) : Bool := decide (p.f ≤ x) && (p.t == 0 || decide (x < p.t))

theorem inA_iff {a : Arc} (ha : a.ok) {x : Int} (hx : Pt64 x) : inA a x = true ↔ (if a.f = a.t then True else if a.f < a.t then a.f ≤ x ∧ x < a.t else a.f ≤ x ∨ x < a.t) := by
  obtain ⟨f, t⟩ := a
  obtain ⟨⟨h1, h2⟩, ⟨h3, h4⟩⟩ := ha
  obtain ⟨h5, h6⟩ := hx
  simp only [inA, Bool.or_eq_true, beq_iff_eq, decide_eq_true_eq]
  simp only at h1 h2 h3 h4
  split
  · simp_all
  · split <;> constructor <;> intro h <;> omega

theorem hasP_iff {p : Arc} {x : Int} : hasP p x = true ↔ p.f ≤ x ∧ (p.t = 0 ∨ x < p.t) := by
  simp [hasP]

theorem piecesA_ok {a : Arc} (ha : a.ok) : ∀ p ∈ piecesA a, p.ok ∧ (p.t = 0 ∨ p.f < p.t) := by
  obtain ⟨f, t⟩ := a
  obtain ⟨⟨h1, h2⟩, ⟨h3, h4⟩⟩ := ha
  simp only at h1 h2 h3 h4
  intro p hp
  unfold piecesA at hp
  simp only at hp
  split at hp
  · simp only [List.mem_singleton] at hp; subst hp; exact ⟨⟨⟨h1, h2⟩, ⟨h3, h4⟩⟩, by assumption⟩
  · simp only [List.mem_cons, List.not_mem_nil, or_false] at hp
    rcases hp with rfl | rfl
    · exact ⟨⟨⟨h1, h2⟩, ⟨Int.le_refl 0, show (0 : Int) < 18446744073709551616 by decide⟩⟩, .inl rfl⟩
    · exact ⟨⟨⟨Int.le_refl 0, show (0 : Int) < 18446744073709551616 by decide⟩, ⟨h3, h4⟩⟩, .inr (by simp only; omega)⟩

/-- the pieces have the arc's points -/
theorem pieces_in {a : Arc} (ha : a.ok) {x : Int} (hx : Pt64 x) : (piecesA a).any (fun p => hasP p x) = inA a x := by
  rw [Bool.eq_iff_iff, inA_iff ha hx]
  obtain ⟨f, t⟩ := a
  obtain ⟨⟨h1, h2⟩, ⟨h3, h4⟩⟩ := ha
  obtain ⟨h5, h6⟩ := hx
  simp only at h1 h2 h3 h4
  unfold piecesA
  simp only
  split
  · simp only [List.any_cons, List.any_nil, Bool.or_false, hasP_iff]
    split
    · simp; omega
    · split <;> constructor <;> intro h <;> omega
  · simp only [List.any_cons, List.any_nil, Bool.or_false, Bool.or_eq_true, hasP_iff, true_or, and_true]
    split
    · simp; omega
    · split <;> constructor <;> intro h <;> omega

/-- arcs have no point in common just if they are apart -/
theorem apart_iff {a b : Arc} (ha : a.ok) (hb : b.ok) : apartA a b = true ↔ ∀ x, Pt64 x → ¬ (inA a x = true ∧ inA b x = true) := by
  constructor
  · intro h x hx ⟨h1, h2⟩
    simp only [apartA, Bool.and_eq_true, Bool.not_eq_true'] at h
    obtain ⟨h3, h4⟩ := h
    have h3' : ¬ inA a b.f = true := by rw [h3]; simp
    have h4' : ¬ inA b a.f = true := by rw [h4]; simp
    rw [inA_iff ha hb.1] at h3'
    rw [inA_iff hb ha.1] at h4'
    rw [inA_iff ha hx] at h1
    rw [inA_iff hb hx] at h2
    obtain ⟨f, t⟩ := a
    obtain ⟨f', t'⟩ := b
    simp only at *
    repeat' split at h1
    all_goals repeat' split at h2
    all_goals simp_all
    all_goals omega
  · intro h
    simp only [apartA, Bool.and_eq_true, Bool.not_eq_true']
    have self : ∀ {c : Arc}, c.ok → inA c c.f = true := fun {c} hc => by
      rw [inA_iff hc hc.1]; split
      · trivial
      · split <;> omega
    refine ⟨?_, ?_⟩
    · cases hc : inA a b.f with
      | false => rfl
      | true => exact absurd ⟨hc, self hb⟩ (h _ hb.1)
    · cases hc : inA b a.f with
      | false => rfl
      | true => exact absurd ⟨self ha, hc⟩ (h _ ha.1)

/-- a piece, as an arc, has the points that it has as a piece -/
theorem piece_in {p : Arc} (hp : p.ok) (hq : p.t = 0 ∨ p.f < p.t) {x : Int} (hx : Pt64 x) : inA p x = hasP p x := by
  rw [Bool.eq_iff_iff, inA_iff hp hx, hasP_iff]
  obtain ⟨⟨h1, h2⟩, ⟨h3, h4⟩⟩ := hp
  obtain ⟨h5, h6⟩ := hx
  split
  · simp; omega
  · split <;> constructor <;> intro h <;> omega

theorem pieces_apart {a b : Arc} (ha : a.ok) (hb : b.ok) : (piecesA a).all (fun p => apartA p b) = apartA a b := by
  rw [Bool.eq_iff_iff, apart_iff ha hb, List.all_eq_true]
  constructor
  · intro h x hx ⟨h1, h2⟩
    rw [← pieces_in ha hx, List.any_eq_true] at h1
    obtain ⟨p, hp, hpx⟩ := h1
    obtain ⟨hpo, hpq⟩ := piecesA_ok ha p hp
    rw [← piece_in hpo hpq hx] at hpx
    exact (apart_iff hpo hb).1 (h p hp) x hx ⟨hpx, h2⟩
  · intro h p hp
    obtain ⟨hpo, hpq⟩ := piecesA_ok ha p hp
    refine (apart_iff hpo hb).2 fun x hx ⟨h1, h2⟩ => h x hx ⟨?_, h2⟩
    rw [← pieces_in ha hx, List.any_eq_true]
    rw [piece_in hpo hpq hx] at h1
    exact ⟨p, hp, h1⟩
end Go.Proofs.YtpcmbnbdppembaaGreatDoor
