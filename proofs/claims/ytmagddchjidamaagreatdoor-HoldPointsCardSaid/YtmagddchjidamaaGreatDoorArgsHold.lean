/- Put together out of: Args, ArgsHold. -/
import Derived.Test.YtmagddchjidamaaGreatDoorFrame
import Derived.Test.YtmagddchjidamaaGreatDoorSeqRows
import Derived.Test.YtmagddchjidamaaGreatDoorArcPlain
/- What an argument of events, of asks looks like: its rows as they are read. -/
namespace Go.Proofs.YtmagddchjidamaaGreatDoor
open Go.RowKit

def itShp : Shp := .st [.s, .s]
def askShp : Shp := .st [.i .i64, .s, .s, .s, .i .i64]
def evShp : Shp := .st [.i .i64, .i .i64, .i .i64, .i .i64, askShp, .st [.i .i64, .s, .sl itShp, .b, .s, .i .i64]]

theorem rd_ev {w : World} {cs : List Value} (h : Rd w evShp cs) : ∃ e : Ev, cs = e.cells := by
  obtain ⟨c1, r1, rfl, h1, h⟩ := rds_cons (rd_st h)
  obtain ⟨c2, r2, rfl, h2, h⟩ := rds_cons h
  obtain ⟨c3, r3, rfl, h3, h⟩ := rds_cons h
  obtain ⟨c4, r4, rfl, h4, h⟩ := rds_cons h
  obtain ⟨c5, r5, rfl, h5, h⟩ := rds_cons h
  obtain ⟨c6, r6, rfl, h6, h⟩ := rds_cons h
  obtain rfl := rds_nil h
  obtain ⟨d1, s1, rfl, g1, h⟩ := rds_cons (rd_st h5)
  obtain ⟨d2, s2, rfl, g2, h⟩ := rds_cons h
  obtain ⟨d3, s3, rfl, g3, h⟩ := rds_cons h
  obtain ⟨d4, s4, rfl, g4, h⟩ := rds_cons h
  obtain ⟨d5, s5, rfl, g5, h⟩ := rds_cons h
  obtain rfl := rds_nil h
  obtain ⟨e1, t1, rfl, f1, h⟩ := rds_cons (rd_st h6)
  obtain ⟨e2, t2, rfl, f2, h⟩ := rds_cons h
  obtain ⟨e3, t3, rfl, f3, h⟩ := rds_cons h
  obtain ⟨e4, t4, rfl, f4, h⟩ := rds_cons h
  obtain ⟨e5, t5, rfl, f5, h⟩ := rds_cons h
  obtain ⟨e6, t6, rfl, f6, h⟩ := rds_cons h
  obtain rfl := rds_nil h
  obtain ⟨n1, rfl, _⟩ := rdc_int h1
  obtain ⟨n2, rfl, _⟩ := rdc_int h2
  obtain ⟨n3, rfl, _⟩ := rdc_int h3
  obtain ⟨n4, rfl, _⟩ := rdc_int h4
  obtain ⟨m1, rfl, _⟩ := rdc_int g1
  obtain ⟨m2, rfl, _⟩ := rdc_str g2
  obtain ⟨m3, rfl, _⟩ := rdc_str g3
  obtain ⟨m4, rfl, _⟩ := rdc_str g4
  obtain ⟨m5, rfl, _⟩ := rdc_int g5
  obtain ⟨k1, rfl, _⟩ := rdc_int f1
  obtain ⟨k2, rfl, _⟩ := rdc_str f2
  obtain ⟨ia, il, ic, rfl⟩ := rdc_slice f3
  obtain ⟨k4, rfl⟩ := rdc_bool f4
  obtain ⟨k5, rfl, _⟩ := rdc_str f5
  obtain ⟨k6, rfl, _⟩ := rdc_int f6
  exact ⟨⟨n1, n2, n3, n4, m1, m2, m3, m4, m5, k1, k2, ia, il, ic, k4, k5, k6⟩, rfl⟩

/-- a slice argument whose elements read, one by one -/
theorem slAt_of_rd {α : Type} {k : Nat} {enc : α → List Value} {w : World} {e : Shp} {v : Value} (h : RdV w (.sl e) v) (hn : e.n = k) (hk : 0 < k) (hr : ∀ cs, cs.length = k → Rd w e cs → ∃ x : α, cs = enc x) :
    ∃ l : List α, SlAt k enc w v l ∧ l.length ≤ 9223372036854775807 := by
  rcases rd_slice h with rfl | ⟨a, len, cap, rfl, hl, hm, hi⟩
  · exact ⟨[], SlAt.nil _ _ _ _ _, by simp⟩
  by_cases h0 : len = 0
  · subst h0
    exact ⟨[], SlAt.nil _ _ _ _ _, by simp⟩
  obtain ⟨b, o, rfl, hlt⟩ := slice_base (by omega) (by omega) hi
  obtain ⟨l, hlen, hc⟩ := exists_list (P := fun i (x : α) => ∀ j u, (enc x)[j]? = some u → w.cell? ⟨b, o + i * k + j, none⟩ = some u) len (fun i h => by
    obtain ⟨cs, hcn, hat, hr'⟩ := hi i h
    rw [hn] at hcn hat
    obtain ⟨x, rfl⟩ := hr cs hcn hr'
    refine ⟨x, fun j u hu => ?_⟩
    have hj : j < k := by have := (List.getElem?_eq_some_iff.1 hu).1; omega
    have := hat j hj
    rw [add_none] at this
    rw [← hu, ← this, Nat.add_assoc])
  refine ⟨l, ⟨_, cap, by rw [hlen], fun i x hx => ⟨b, o, rfl, ?_⟩⟩, by unfold maxLen at hm; omega⟩
  have hil := (List.getElem?_eq_some_iff.1 hx).1
  have := hc i hil
  rw [(List.getElem?_eq_some_iff.1 hx).2] at this
  exact this

theorem evsAt_of_rd {w : World} {v : Value} (h : RdV w (.sl evShp) v) : ∃ l : List Ev, EvsAt w v l ∧ l.length ≤ 9223372036854775807 :=
  slAt_of_rd h rfl (by decide) (fun _ _ h => rd_ev h)
end Go.Proofs.YtmagddchjidamaaGreatDoor

/- What an argument of items, an arc looks like. -/
namespace Go.Proofs.YtmagddchjidamaaGreatDoor
open Go.RowKit

abbrev arcShp : Shp := .st [.i .u64, .i .u64]
abbrev itmShp : Shp := .st [.s, .s]

theorem pt_of_wf {n : Int} (h : (Lit.int .u64 n).wf = true) : Pt64 n := by
  have h1 : IntKind.u64.min = 0 := by decide
  have h2 : IntKind.u64.max = 18446744073709551615 := by decide
  simp only [Lit.wf, h1, h2, Bool.and_eq_true, decide_eq_true_eq] at h
  unfold Pt64
  omega

theorem rd_arc {w : World} {v : Value} (h : RdV w arcShp v) : ∃ a : Arc, v = .agg #[.int .u64 a.f, .int .u64 a.t] ∧ a.ok := by
  unfold RdV at h
  obtain ⟨cs, rfl, h⟩ := h
  obtain ⟨c1, r1, e1, h1, h⟩ := rds_cons h
  obtain ⟨c2, r2, e2, h2, h⟩ := rds_cons h
  obtain rfl := rds_nil h
  obtain ⟨f, rfl, hf⟩ := rdc_int h1
  obtain ⟨t, rfl, ht⟩ := rdc_int h2
  refine ⟨⟨f, t⟩, ?_, pt_of_wf hf, pt_of_wf ht⟩
  congr 1
  apply Array.ext'
  rw [e1, e2]
  rfl

theorem rd_itm {w : World} {cs : List Value} (h : Rd w itmShp cs) : ∃ x : ByteArray × ByteArray, cs = encIt x := by
  obtain ⟨c1, r1, rfl, h1, h⟩ := rds_cons (rd_st h)
  obtain ⟨c2, r2, rfl, h2, h⟩ := rds_cons h
  obtain rfl := rds_nil h
  obtain ⟨a, rfl, _⟩ := rdc_str h1
  obtain ⟨b, rfl, _⟩ := rdc_str h2
  exact ⟨(a, b), rfl⟩

theorem itsAt_of_rd {w : World} {v : Value} (h : RdV w (.sl itmShp) v) : ∃ l : List (ByteArray × ByteArray), SlAt 2 encIt w v l ∧ l.length ≤ 9223372036854775807 :=
  slAt_of_rd h rfl (by decide) (fun _ _ h => rd_itm h)
end Go.Proofs.YtmagddchjidamaaGreatDoor
