/- (*hold.Hold).scan: what is told of a scan. -/
import Derived.Test.YtmagddchjidamaaGreatDoorScanDef
import Derived.Test.YtmagddchjidamaaGreatDoorCollect
import Derived.Test.YtmagddchjidamaaGreatDoorHoldI
import Derived.Test.YtmagddchjidamaaGreatDoorScanKit
import Derived.StillTailTactics
namespace Go.Proofs.YtmagddchjidamaaGreatDoor
set_option linter.unusedSimpArgs false
set_option linter.unusedVariables false
open Go.RowKit Go.Shelf
attribute [local go_sem] Oper.semAt_some

/-- the cells of a Told of a scan -/
abbrev toldCs (v : Value) (more : Bool) (next : ByteArray) : Array Value := #[.int .i64 0, .string ⟨#[]⟩, v, .bool more, .string next, .int .i64 0]
abbrev encScan (v : Value) (more : Bool) (next : ByteArray) : Value := .agg (toldCs v more next)

/-- what the loop keeps -/
structure ScInv (w : World) (E : Nat) (op : Int) (k v tk : ByteArray) (most : Nat) (e : Int) (pre : List Itm) (W : World) : Prop where
  ask : W.heap[w.heap.size]? = some (.cells #[.int .i64 op, .string k, .string v, .string tk, .int .i64 most] 32 (0, 0))
  res : W.heap[w.heap.size + 1]? = some (.cells (toldCs (.slice none 0 0) false ⟨#[]⟩) 37 (0, 0))
  eb : W.heap[E]? = some (.cells #[.int .u64 e] 27 (0, 0))
  t : ∃ u, W.heap[E + 1]? = some (.cells (toldCs u false ⟨#[]⟩) 37 (0, 0)) ∧ W.ownsRow w.heap.size 43 2 u pre.length (pre.flatMap encIt)
  below : Below w.heap.size w W
  ok : ∀ x ∈ pre, aheadP e x = true
  le : pre.length ≤ most

theorem heapOwn {W W' : World} {row : Option Nat} {b B1 : Nat} {o : Obj} (h : W.heap[b]? = some o) (hg : W.grownBy W' row) (hr : ∀ r, row = some r → B1 ≤ r) (hb : b < B1) : W'.heap[b]? = some o :=
  (hg.block b (Array.getElem?_eq_some_iff.1 h).1 (fun e => by have := hr _ e.symm; omega)).trans h
theorem rowOwn {W W' : World} {row : Option Nat} {base : Nat} {e : TypeId} {size n : Nat} {v : Value} {xs : List Value} (h : W.ownsRow base e size v n xs) (hg : W.grownBy W' row) (hr : ∀ r, row = some r → ∃ o : Obj, W.heap[r]? = some o ∧ o.isCells = false) : W'.ownsRow base e size v n xs := by
  refine h.kept hg ?_
  rcases h.2 with ⟨rfl, _⟩ | ⟨g, cap, cur, rfl, _, hgb, _⟩
  · exact .inl rfl
  · refine .inr fun e' => ?_
    obtain ⟨o, ho, hc⟩ := hr g (by simpa [Value.ownBlock] using e'.symm)
    rw [hgb] at ho; cases ho; cases hc

theorem ScInv.own {w : World} {E : Nat} {op : Int} {k v tk : ByteArray} {most : Nat} {e : Int} {pre : List Itm} {B1 : Nat} (hE : w.heap.size + 2 ≤ E) (hB : E + 2 ≤ B1) {X Y : World} {row : Option Nat} (h : ScInv w E op k v tk most e pre X) (hg : X.grownBy Y row)
    (hr : ∀ r, row = some r → B1 ≤ r ∧ ∃ o : Obj, X.heap[r]? = some o ∧ o.isCells = false) : ScInv w E op k v tk most e pre Y := by
  obtain ⟨u, h1, h2⟩ := h.t
  have hr1 : ∀ r, row = some r → B1 ≤ r := fun r e => (hr r e).1
  exact ⟨heapOwn h.ask hg hr1 (by omega), heapOwn h.res hg hr1 (by omega), heapOwn h.eb hg hr1 (by omega), ⟨u, heapOwn h1 hg hr1 (by omega), rowOwn h2 hg (fun r e => (hr r e).2)⟩,
    ownFrom_below (β := Unit) (B := B1) (Nat.le_refl _) (by omega) () X Y row h.below hg hr, h.ok, h.le⟩

theorem ScInv.mod {w : World} {E : Nat} {op : Int} {k v tk : ByteArray} {most : Nat} {e : Int} {pre : List Itm} {X Y : World} (h : ScInv w E op k v tk most e pre X) (hm : Mod NoB X Y) : ScInv w E op k v tk most e pre Y := by
  obtain ⟨u, h1, h2⟩ := h.t
  have q : ∀ {b : Nat} {o : Obj}, X.heap[b]? = some o → Y.heap[b]? = some o := fun {b o} hb => (hm.block b (Array.getElem?_eq_some_iff.1 hb).1 (fun x => x)).trans hb
  exact ⟨q h.ask, q h.res, q h.eb, ⟨u, q h1, own_mod' h2 hm (fun _ _ x => x)⟩, h.below.trans ((Below.mono (hm.below_self) h.below.size)), h.ok, h.le⟩

/-- how the loop is left ahead of its end -/
def ScOut (w : World) (E : Nat) (op : Int) (k v tk : ByteArray) (most : Nat) (e : Int) (c : Code) (pre : List Itm) (W : World) : Prop :=
  ∃ p x, pre = p ++ [x] ∧ ((c = .exit 0 ∧ aheadP e x = false ∧ ScInv w E op k v tk most e p W) ∨
    (c = .ret ∧ aheadP e x = true ∧ p.length = most ∧ (∀ y ∈ p, aheadP e y = true) ∧ Below w.heap.size w W ∧
      ∃ u, W.heap[w.heap.size + 1]? = some (.cells (toldCs u true x.1) 37 (0, 0)) ∧ W.ownsRow w.heap.size 43 2 u p.length (p.flatMap encIt)))

theorem ScOut.own {w : World} {E : Nat} {op : Int} {k v tk : ByteArray} {most : Nat} {e : Int} {c : Code} {pre : List Itm} {B1 : Nat} (hE : w.heap.size + 2 ≤ E) (hB : E + 2 ≤ B1) {X Y : World} {row : Option Nat} (h : ScOut w E op k v tk most e c pre X) (hg : X.grownBy Y row)
    (hr : ∀ r, row = some r → B1 ≤ r ∧ ∃ o : Obj, X.heap[r]? = some o ∧ o.isCells = false) : ScOut w E op k v tk most e c pre Y := by
  obtain ⟨p, x, h1, h2⟩ := h
  refine ⟨p, x, h1, ?_⟩
  rcases h2 with ⟨h2, h3, h4⟩ | ⟨h2, h3, h4, h5, h6, u, h7, h8⟩
  · exact .inl ⟨h2, h3, h4.own hE hB hg hr⟩
  · exact .inr ⟨h2, h3, h4, h5, ownFrom_below (β := Unit) (B := B1) (Nat.le_refl _) (by omega) () X Y row h6 hg hr, u, heapOwn h7 hg (fun r e => (hr r e).1) (by omega), rowOwn h8 hg (fun r e => (hr r e).2)⟩

/-- a field's row behind an append and the store back -/
theorem field_app {W w1 : World} {Bo bi n0 : Nat} {t e : TypeId} {cs : Array Value} {v v' : Value} {tmp : Obj} {size n m : Nat} {xs ys : List Value} (hv : W.heap[Bo]? = some (.cells cs t (0, 0))) (hbi : cs[bi]? = some v) (hte : t ≠ e)
    (hrow : W.ownsRow n0 e size v n xs) (hg : (W.alloc tmp).grownBy w1 v.ownBlock) (hown' : w1.ownsRow n0 e size v' m ys) (hat : v'.ownBlock = v.ownBlock ∨ v'.ownBlock = some (W.alloc tmp).heap.size) (hn0 : n0 ≤ W.heap.size) (hBo : n0 ≤ Bo) :
    w1.heap[Bo]? = some (.cells cs t (0, 0)) ∧ (w1.setCell ⟨Bo, bi, none⟩ v').ownsRow n0 e size v' m ys ∧ KeepsOthers W (w1.setCell ⟨Bo, bi, none⟩ v') ∧ Below n0 W (w1.setCell ⟨Bo, bi, none⟩ v') ∧ KeepsI Bo bi W (w1.setCell ⟨Bo, bi, none⟩ v') ∧
      (∀ k, k < W.heap.size → k ≠ Bo → some k ≠ v.ownBlock → (w1.setCell ⟨Bo, bi, none⟩ v').heap[k]? = W.heap[k]?) := by
  have hlt : Bo < W.heap.size := (Array.getElem?_eq_some_iff.1 hv).1
  have notrow : ∀ {X : World} {u : Value} {q : Nat} {zs : List Value}, X.heap[Bo]? = some (.cells cs t (0, 0)) → X.ownsRow n0 e size u q zs → some Bo ≠ u.ownBlock := fun {X u q zs} hX hr => by
    rcases hr.2 with ⟨rfl, _⟩ | ⟨g, cap, cur, rfl, _, hgb, _⟩
    · simp [Value.ownBlock]
    · intro e'
      obtain rfl : Bo = g := by simpa [Value.ownBlock] using e'
      have := hX.symm.trans hgb
      simp at this
      exact hte this.2
  have hne := notrow hv hrow
  have hgs := hg.size
  simp only [World.size_alloc] at hgs
  have hv1 : w1.heap[Bo]? = some (.cells cs t (0, 0)) := (hg.block Bo (by simp; omega) hne).trans ((Below.heap_alloc _ _ _ hlt).trans hv)
  have hne1 := notrow hv1 hown'
  have hgset : w1.grownBy (w1.setCell ⟨Bo, bi, none⟩ v') (some Bo) := ⟨rfl, rfl, rfl, (KeepsWalks.setCell w1 _ v').size, fun k _ hk => Below.heap_setCell _ _ _ k (fun e => hk (by rw [e]))⟩
  have hsz : (w1.setCell ⟨Bo, bi, none⟩ v').heap.size = w1.heap.size := by simp [World.setCell]
  have hcell : (w1.setCell ⟨Bo, bi, none⟩ v').cell? ⟨Bo, bi, none⟩ = some v' := by
    have hb := heap_set hv1 bi v'
    have hl : bi < cs.size := (Array.getElem?_eq_some_iff.1 hbi).1
    exact cell_of hb bi (by simp [hl])
  have hrest : ∀ k, k < W.heap.size → k ≠ Bo → some k ≠ v.ownBlock → (w1.setCell ⟨Bo, bi, none⟩ v').heap[k]? = W.heap[k]? := fun k hk h1 h2 => by
    rw [Below.heap_setCell _ _ _ _ h1, hg.block k (by simp; omega) h2, Below.heap_alloc _ _ _ hk]
  refine ⟨hv1, hown'.kept hgset (.inr hne1.symm), ?_, ?_, ?_, hrest⟩
  · refine ((KeepsOthers.alloc W tmp).trans (KeepsOthers.of_grownBy hg fun j o ej hj => ?_)).trans (KeepsOthers.setCell _ _ _)
    rcases (hrow.alloc tmp).2 with ⟨rfl, _⟩ | ⟨g, cap, cur, rfl, _, hgb, _⟩
    · simp [Value.ownBlock] at ej
    · obtain rfl : g = j := by simpa [Value.ownBlock] using ej
      rw [hgb] at hj; cases hj; rfl
  · refine (((Below.refl n0 W).alloc hn0 tmp).grown hg (by simp; omega) fun j ej => ?_).setCell (p := ⟨Bo, bi, none⟩) hBo v'
    rcases hrow.2 with ⟨rfl, _⟩ | ⟨g, cap, cur, rfl, hb, _, _⟩
    · simp [Value.ownBlock] at ej
    · obtain rfl : g = j := by simpa [Value.ownBlock] using ej
      exact hb
  · have hbody : ∀ k, BodyI Bo bi (w1.setCell ⟨Bo, bi, none⟩ v') k → k = Bo ∨ k ∈ ownL v' := by
      rintro k (rfl | ⟨u, hu, hk⟩)
      · exact .inl rfl
      · rw [hcell] at hu
        obtain rfl := Option.some.inj hu
        exact .inr hk
    have hcv : W.cell? ⟨Bo, bi, none⟩ = some v := cell_of hv bi hbi
    refine ⟨by rw [hsz]; omega, fun k o ho hc hn => ?_, fun k hk => ?_, fun hl k hk => ?_⟩
    · have hkl : k < W.heap.size := (Array.getElem?_eq_some_iff.1 ho).1
      rw [hrest k hkl (fun e => hn (.inl e)) (fun e => hn (.inr ⟨v, hcv, by simp [ownL, ← e]⟩))]
      exact ho
    · rcases hbody k hk with rfl | hk
      · exact .inl (.inl rfl)
      · rcases hat with e | e
        · exact .inl (.inr ⟨v, hcv, by simpa [ownL, e] using hk⟩)
        · right
          simp [ownL, e] at hk
          omega
    · rw [hsz]
      rcases hbody k hk with rfl | hk
      · exact (Array.getElem?_eq_some_iff.1 hv1).1
      · exact own_lt hown' k hk

theorem not_own_row {W : World} {B n0 size n : Nat} {t e : TypeId} {cs : Array Value} {u : Value} {ys : List Value} (hb : W.heap[B]? = some (.cells cs t (0, 0))) (hte : t ≠ e) (h : W.ownsRow n0 e size u n ys) : some B ≠ u.ownBlock := by
  rcases h.2 with ⟨rfl, _⟩ | ⟨g, cap, cur, rfl, _, hgb, _⟩
  · simp [Value.ownBlock]
  · intro e'
    obtain rfl : B = g := by simpa [Value.ownBlock] using e'
    have := hb.symm.trans hgb
    simp at this
    exact hte this.2
theorem own_set {W : World} {B i n0 size n : Nat} {t e : TypeId} {cs : Array Value} {u x : Value} {ys : List Value} (h : W.ownsRow n0 e size u n ys) (hb : W.heap[B]? = some (.cells cs t (0, 0))) (hte : t ≠ e) : (W.setCell ⟨B, i, none⟩ x).ownsRow n0 e size u n ys := by
  have hg : W.grownBy (W.setCell ⟨B, i, none⟩ x) (some B) := ⟨rfl, rfl, rfl, (KeepsWalks.setCell W _ x).size, fun k _ hk => Below.heap_setCell _ _ _ k (fun e => hk (by rw [e]))⟩
  refine h.kept hg ?_
  rcases h.2 with ⟨rfl, _⟩ | ⟨g, cap, cur, rfl, _, hgb, _⟩
  · exact .inl rfl
  · refine .inr fun e' => ?_
    obtain rfl : g = B := by simpa [Value.ownBlock] using e'
    have := hb.symm.trans hgb
    simp at this
    exact hte this.2

/-- More and Next are stored -/
theorem mark2 {W : World} {T n0 size n : Nat} {t e : TypeId} {u : Value} {m : Bool} {nx : ByteArray} {ys : List Value} (hT : W.heap[T]? = some (.cells (toldCs u m nx) t (0, 0))) (hte : t ≠ e) (hrow : W.ownsRow n0 e size u n ys) (hn : n0 ≤ T) (x : ByteArray) :
    ((W.setCell ⟨T, 3, none⟩ (.bool true)).setCell ⟨T, 4, none⟩ (.string x)).heap[T]? = some (.cells (toldCs u true x) t (0, 0)) ∧ ((W.setCell ⟨T, 3, none⟩ (.bool true)).setCell ⟨T, 4, none⟩ (.string x)).ownsRow n0 e size u n ys ∧
      KeepsOthers W ((W.setCell ⟨T, 3, none⟩ (.bool true)).setCell ⟨T, 4, none⟩ (.string x)) ∧ Below n0 W ((W.setCell ⟨T, 3, none⟩ (.bool true)).setCell ⟨T, 4, none⟩ (.string x)) ∧
      ∀ R, R ≠ T → ((W.setCell ⟨T, 3, none⟩ (.bool true)).setCell ⟨T, 4, none⟩ (.string x)).heap[R]? = W.heap[R]? := by
  have h1 := heap_set hT 3 (.bool true)
  refine ⟨?_, own_set (own_set hrow hT hte) h1 hte, (KeepsOthers.setCell _ _ _).trans (KeepsOthers.setCell _ _ _), ((Below.refl n0 W).setCell (p := ⟨T, 3, none⟩) hn _).setCell (p := ⟨T, 4, none⟩) hn _, fun R hR => by rw [heap_set_other hR, heap_set_other hR]⟩
  have := heap_set h1 4 (.string x)
  simpa [toldCs] using this

/-- a Told is copied, cell by cell -/
theorem copy6 {W : World} {R n0 size n : Nat} {t e : TypeId} {u u0 : Value} {m m0 : Bool} {nx nx0 : ByteArray} {ys : List Value} (hR : W.heap[R]? = some (.cells (toldCs u0 m0 nx0) t (0, 0))) (hte : t ≠ e) (hrow : W.ownsRow n0 e size u n ys) (hn : n0 ≤ R) :
    ((((((W.setCell ⟨R, 0, none⟩ (.int .i64 0)).setCell ⟨R, 1, none⟩ (.string ⟨#[]⟩)).setCell ⟨R, 2, none⟩ u).setCell ⟨R, 3, none⟩ (.bool m)).setCell ⟨R, 4, none⟩ (.string nx)).setCell ⟨R, 5, none⟩ (.int .i64 0)).heap[R]? = some (.cells (toldCs u m nx) t (0, 0)) ∧
      ((((((W.setCell ⟨R, 0, none⟩ (.int .i64 0)).setCell ⟨R, 1, none⟩ (.string ⟨#[]⟩)).setCell ⟨R, 2, none⟩ u).setCell ⟨R, 3, none⟩ (.bool m)).setCell ⟨R, 4, none⟩ (.string nx)).setCell ⟨R, 5, none⟩ (.int .i64 0)).ownsRow n0 e size u n ys ∧
      KeepsOthers W ((((((W.setCell ⟨R, 0, none⟩ (.int .i64 0)).setCell ⟨R, 1, none⟩ (.string ⟨#[]⟩)).setCell ⟨R, 2, none⟩ u).setCell ⟨R, 3, none⟩ (.bool m)).setCell ⟨R, 4, none⟩ (.string nx)).setCell ⟨R, 5, none⟩ (.int .i64 0)) ∧
      Below n0 W ((((((W.setCell ⟨R, 0, none⟩ (.int .i64 0)).setCell ⟨R, 1, none⟩ (.string ⟨#[]⟩)).setCell ⟨R, 2, none⟩ u).setCell ⟨R, 3, none⟩ (.bool m)).setCell ⟨R, 4, none⟩ (.string nx)).setCell ⟨R, 5, none⟩ (.int .i64 0)) := by
  have h0 := heap_set hR 0 (.int .i64 0)
  have h1 := heap_set h0 1 (.string ⟨#[]⟩)
  have h2 := heap_set h1 2 u
  have h3 := heap_set h2 3 (.bool m)
  have h4 := heap_set h3 4 (.string nx)
  have h5 := heap_set h4 5 (.int .i64 0)
  refine ⟨?_, own_set (own_set (own_set (own_set (own_set (own_set hrow hR hte) h0 hte) h1 hte) h2 hte) h3 hte) h4 hte, ?_, ?_⟩
  · simpa [toldCs] using h5
  · exact (((((KeepsOthers.setCell _ _ _).trans (KeepsOthers.setCell _ _ _)).trans (KeepsOthers.setCell _ _ _)).trans (KeepsOthers.setCell _ _ _)).trans (KeepsOthers.setCell _ _ _)).trans (KeepsOthers.setCell _ _ _)
  · exact ((((((Below.refl n0 W).setCell (p := ⟨R, 0, none⟩) hn _).setCell (p := ⟨R, 1, none⟩) hn _).setCell (p := ⟨R, 2, none⟩) hn _).setCell (p := ⟨R, 3, none⟩) hn _).setCell (p := ⟨R, 4, none⟩) hn _).setCell (p := ⟨R, 5, none⟩) hn _

set_option maxRecDepth 100000 in
theorem results_told {tmps : Array Value} {W : World} {R : Nat} {u : Value} {m : Bool} {nx : ByteArray} (ht : tmps[4]? = some (.pointer (some ⟨R, 0, none⟩))) (hu : u.cells = #[u]) (hR : W.heap[R]? = some (.cells (toldCs u m nx) 37 (0, 0))) :
    (results Tryz.f40 tmps).run Tryz.prog W = .ok (encScan u m nx) W := by
  have c0 := cell_of hR 0 (v := .int .i64 0) rfl; have c1 := cell_of hR 1 (v := .string ⟨#[]⟩) rfl; have c2 := cell_of hR 2 (v := u) rfl; have c3 := cell_of hR 3 (v := .bool m) rfl; have c4 := cell_of hR 4 (v := .string nx) rfl; have c5 := cell_of hR 5 (v := .int .i64 0) rfl
  unfold results
  rw [show Tryz.f40.results = #[.cell 4 37] by kernel_rfl]
  simp [go_sem, ht, c0, c1, c2, c3, c4, c5, loadVar]
  trace_state
  done
set_option maxRecDepth 100000 in
set_option maxHeartbeats 8000000 in
theorem scan_any {w : World} {h : Nat} {st : HSt} {xs : List Itm} {B : List Nat} (hh : HoldI w h st xs B) (op : Int) (k v tk : ByteArray) (most : Nat) (hk : k.size ≤ 1000000) (hto : tk.size ≤ 1000000) (hmost : most ≤ 1000000) (hxl : xs.length ≤ 100000)
    (hown : ∀ o ∈ st.own, Pt64 o.t) (ha : Pt64 st.a.f) (hlen : st.own.length ≤ 1000000) :
    Calls Tryz.prog 40 #[.pointer (some ⟨h, 0, none⟩), encAsk op k v tk most] w fun e w' => ∃ u, e = .returned (encScan u (scanR st k tk most xs).more (scanR st k tk most xs).next) ∧
      w'.ownsRow w.heap.size 43 2 u (scanR st k tk most xs).its.length ((scanR st k tk most xs).its.flatMap encIt) ∧ Mod NoB w w' := by
  obtain ⟨i0, z0, hi, hz0, hz1, hz2, hz3⟩ := itInfo_parts
  have HH := Lib.hid hh
  clear hh
  refine (callsIn_wide (n := 6)).1 ?_
  refine callsIn_of_wp_marks Tryz.func40 rfl trivial ?_ rfl
  simp only [Tryz.ntmps40, List.size_toArray, List.length_cons, List.length_nil, Nat.reduceAdd, Nat.reduceSub, Array.replicate_succ, Array.replicate_zero, List.push_toArray, List.append_toArray, List.nil_append, List.cons_append]
  refine wpIn_wide.2 ?_
  go_wp2_with fail
  obtain ⟨w1, hw1⟩ : ∃ w1, w1 = (w.alloc (.cells #[.int .i64 op, .string k, .string v, .string tk, .int .i64 most] 32)).alloc (.cells (toldCs (.slice none 0 0) false ⟨#[]⟩) 37) := ⟨_, rfl⟩
  have bA : w1.heap[w.heap.size]? = some (.cells #[.int .i64 op, .string k, .string v, .string tk, .int .i64 most] 32 (0, 0)) := by
    rw [hw1, Below.heap_alloc _ _ _ (by simp)]; exact heap_alloc_new w _
  have bR : w1.heap[w.heap.size + 1]? = some (.cells (toldCs (.slice none 0 0) false ⟨#[]⟩) 37 (0, 0)) := by
    rw [hw1]; exact heap_two2 _ _ _
  have hm1 : Mod NoB w w1 := by rw [hw1]; exact ((Mod.refl _ _).alloc _).alloc _
  have hs1 : w1.heap.size = w.heap.size + 2 := by rw [hw1]; simp
  rw [← hw1]
  clear hw1
  have a1 := cell_of bA 1 (v := .string k) rfl
  go_step3
  go_wp2_with fail
  refine (addr_any k _).mono ?_
  rintro e w2 ⟨rfl, rfl⟩
  go_wp2_with fail
  obtain ⟨tr, n, hh, ho⟩ := HH.out
  refine (end_any (hh.mod hm1 (fun _ _ x => x)) (addr k) (addr_64 k) hown ha hlen).mono ?_
  rintro e w3 ⟨rfl, hm3⟩
  go_wp2_with fail
  go_step3
  have hs3 := hm3.size
  obtain ⟨E, hE⟩ : ∃ E, E = w3.heap.size := ⟨_, rfl⟩
  obtain ⟨w4, hw4⟩ : ∃ w4, w4 = (w3.alloc (.cells #[.int .u64 (endA st (addr k))] 27)).alloc (.cells (toldCs (.slice none 0 0) false ⟨#[]⟩) 37) := ⟨_, rfl⟩
  have bE : w4.heap[E]? = some (.cells #[.int .u64 (endA st (addr k))] 27 (0, 0)) := by
    rw [hw4, hE, Below.heap_alloc _ _ _ (by simp)]; exact heap_alloc_new w3 _
  have bT : w4.heap[E + 1]? = some (.cells (toldCs (.slice none 0 0) false ⟨#[]⟩) 37 (0, 0)) := by
    rw [hw4, hE]; exact heap_two2 _ _ _
  have hm34 : Mod NoB w3 w4 := by rw [hw4]; exact ((Mod.refl _ _).alloc _).alloc _
  have hm14 := hm3.trans hm34
  have hm04 := hm1.trans hm14
  have hs4 : w4.heap.size = E + 2 := by rw [hw4, hE]; simp
  have hEw : w.heap.size + 2 ≤ E := by omega
  rw [← hw4, ← hE]
  clear hw4 hE hm34
  have bA4 := (hm14.block _ (by omega) (fun x => x)).trans bA
  have bR4 := (hm14.block _ (by omega) (fun x => x)).trans bR
  obtain ⟨vo, vp, s, L, q1, q2, q3, q4, _, _⟩ := id (hh.mod hm04 (fun _ _ x => x))
  have c4 : w4.cell? ⟨h, 4, none⟩ = some (.pointer (some ⟨s, 0, none⟩)) := cell_of q1 4 rfl
  have d1 := cell_of bA4 1 (v := .string k) rfl
  have d3 := cell_of bA4 3 (v := .string tk) rfl
  have Q1 := Lib.hid q1
  clear q1 q2 q3 a1
  go_wp2_with fail
  go_still_tail 8, (by kernel_rfl)
  change wpList _ _ _ _ _ w4.drew
  obtain ⟨w5, hw5⟩ : ∃ w5, w5 = w4.drew := ⟨_, rfl⟩
  have hm45 : Mod NoB w4 w5 := by rw [hw5]; exact (Mod.refl _ _).drew
  have bA5 := (hm45.block _ (by omega) (fun x => x)).trans bA4
  have bR5 := (hm45.block _ (by omega) (fun x => x)).trans bR4
  have bE5 := (hm45.block _ (by omega) (fun x => x)).trans bE
  have bT5 := (hm45.block _ (by omega) (fun x => x)).trans bT
  have hs5 : w5.heap.size = E + 2 := by rw [hw5]; exact hs4
  rw [← hw5]
  clear hw5 bA4 bR4 bE bT bA bR hs4
  have d1 := cell_of bA5 1 (v := .string k) rfl
  have d3 := cell_of bA5 3 (v := .string tk) rfl
  have c4 := hm45.cellS c4
  go_wp2_with fail
  refine (wrange_make s k tk _).mono ?_
  rintro e w6 ⟨rfl, hw6⟩
  go_wp2_with fail
  refine (wpIn_wide (n := 6)).1 ?_
  obtain ⟨w7, hw7⟩ : ∃ w7, w7 = ((w5.alloc (.cells #[.pointer (some ⟨s, 0, none⟩)] 69)).alloc (.cells #[.string k] 9)).alloc (.cells #[.string tk] 9) := ⟨_, rfl⟩
  have hm57 : Mod NoB w5 w7 := by rw [hw7]; exact (((Mod.refl _ _).alloc _).alloc _).alloc _
  have hs7 : w7.heap.size = E + 5 := by rw [hw7]; simp; omega
  have bS7 : w7.cell? ⟨E + 2, 0, none⟩ = some (.pointer (some ⟨s, 0, none⟩)) := by
    rw [hw7]
    have h1 : (w5.alloc (.cells #[.pointer (some ⟨s, 0, none⟩)] 69)).cell? ⟨E + 2, 0, none⟩ = some (.pointer (some ⟨s, 0, none⟩)) := by
      rw [← hs5]; exact (Boxed.new w5 69 (.pointer (some ⟨s, 0, none⟩))).cell
    exact (((Mod.refl NoB _).alloc _).alloc _).cellS h1
  have bK7 : w7.cell? ⟨E + 2 + 1, 0, none⟩ = some (.string k) := by
    rw [hw7]
    have h1 : ((w5.alloc (.cells #[.pointer (some ⟨s, 0, none⟩)] 69)).alloc (.cells #[.string k] 9)).cell? ⟨E + 2 + 1, 0, none⟩ = some (.string k) := by
      have := (Boxed.new (w5.alloc (.cells #[.pointer (some ⟨s, 0, none⟩)] 69)) 9 (.string k)).cell
      rw [World.size_alloc, hs5] at this
      exact this
    exact ((Mod.refl NoB _).alloc _).cellS h1
  have bZ7 : w7.cell? ⟨E + 2 + 1 + 1, 0, none⟩ = some (.string tk) := by
    rw [hw7]
    have := (Boxed.new ((w5.alloc (.cells #[.pointer (some ⟨s, 0, none⟩)] 69)).alloc (.cells #[.string k] 9)) 9 (.string tk)).cell
    rw [World.size_alloc, World.size_alloc, hs5] at this
    exact this
  rw [← hw7]
  clear hw7
  have bA7 := (hm57.block _ (by omega) (fun x => x)).trans bA5
  have bR7 := (hm57.block _ (by omega) (fun x => x)).trans bR5
  have bE7 := (hm57.block _ (by omega) (fun x => x)).trans bE5
  have bT7 := (hm57.block _ (by omega) (fun x => x)).trans bT5
  have hm47 := hm45.trans hm57
  have hm07 := hm04.trans hm47
  have hit := ho.items (by omega)
  have hxs : ∀ x ∈ xs, x.1.size ≤ 1000000 := fun x hx => by have := ho.2.2.1 x hx; omega
  have hap : ApartI (E + 1) 2 w7 [E + 2 + 1, E + 2 + 1 + 1] := by
    have hb : ∀ q, BodyI (E + 1) 2 w7 q → q = E + 1 := fun q hq => by
      rcases hq with rfl | ⟨u, hu, hq⟩
      · rfl
      · rw [cell_of bT7 2 (v := .slice none 0 0) rfl] at hu
        obtain rfl := (Option.some.inj hu).symm
        simp [ownL, Value.ownBlock] at hq
    refine ⟨by omega, fun q hq => by have := hb q hq; omega, fun g hg hq => ?_, fun g hg => ?_⟩
    · have := hb g hq
      simp only [List.mem_cons, List.not_mem_nil, or_false] at hg
      omega
    · simp only [List.mem_cons, List.not_mem_nil, or_false] at hg
      omega
  have hseq := range_seq hit (by omega) hxs hk hto (Bo := E + 1) (bi := 2) hap bS7 bK7 bZ7 (q4.mod hm47 (fun _ _ x => x))
  have hein := endA_in hown ha (addr_64 k)
  generalize he0 : endA st (addr k) = e0 at *
  refine wpIn_rangeC (by decide) (gf := 91) (lb := #[.pointer (some ⟨E + 2, 0, none⟩), .pointer (some ⟨E + 2 + 1, 0, none⟩), .pointer (some ⟨E + 2 + 1 + 1, 0, none⟩)]) rfl (fun _ _ => by kernel_rfl) (n := 6) hseq (fun h k => h.trans k) (keepsI_b (by omega)) (Below.refl _ _) (fun _ => rfl)
    (fun pre W => ScInv w E op k v tk most e0 pre W) (fun c pre W => ScOut w E op k v tk most e0 c pre W) (fun pre X Y row h hg hr => h.own hEw (by omega) hg hr) (fun c pre X Y row h hg hr => h.own hEw (by omega) hg hr) ?h0
    (fun x => { tmps := #[.pointer (some ⟨h, 0, none⟩), encAsk op k v tk most, undef, .pointer (some ⟨w.heap.size, 0, none⟩), .pointer (some ⟨w.heap.size + 1, 0, none⟩), .pointer (some ⟨E, 0, none⟩), .pointer (some ⟨E + 1, 0, none⟩), .string x.1, .string x.2, undef, .pointer (some ⟨h, 0, none⟩), .pointer (some ⟨w.heap.size, 1, none⟩), .string k, .int .u64 (addr k), .int .u64 e0, .pointer (some ⟨h, 0, none⟩), .pointer (some ⟨h, 0, none⟩), .pointer (some ⟨h, 4, none⟩), .pointer (some ⟨s, 0, none⟩), .pointer (some ⟨w.heap.size, 1, none⟩), .string k, .pointer (some ⟨w.heap.size, 3, none⟩), .string tk, .func (.func 91) #[] #[.pointer (some ⟨E + 2, 0, none⟩), .pointer (some ⟨E + 2 + 1, 0, none⟩), .pointer (some ⟨E + 2 + 1 + 1, 0, none⟩)], .string x.1, .string x.2, undef, undef, undef, undef, undef, undef, undef, undef, undef, undef, undef, undef, undef, undef, undef, undef, undef, undef, undef, undef, undef, undef, undef, undef, undef, undef, undef, undef, undef, undef, undef, undef, undef, undef, undef, undef, undef, undef, undef, undef, undef, undef, undef, undef, undef, undef, undef], defers := [] }) ?assign ?body ?done ?stop
  case h0 => exact ⟨bA7, bR7, bE7, ⟨_, bT7, World.ownsRow_nil _ _ _ _⟩, hm07.below_self, fun x hx => absurd hx List.not_mem_nil, Nat.zero_le _⟩
  case assign =>
    intro l' x W' K hK
    gi_wp2
    exact hK
  case body =>
    rintro l' pre x W3 hinv hlen
    obtain ⟨u, bt, hrow⟩ := hinv.t
    obtain ⟨av, cap, hu, _⟩ := own_slAt (k := 2) (enc := encIt) (fun _ => rfl) hrow
    subst hu
    have HINV := Lib.hid hinv; have HROW := Lib.hid hrow; have BT := Lib.hid bt
    have e1 := cell_of hinv.eb 0 (v := .int .u64 e0) rfl
    have t2 := cell_of bt 2 (v := .slice av pre.length cap) rfl
    have a4 := cell_of hinv.ask 4 (v := .int .i64 most) rfl
    clear hinv hrow bt hseq
    have hmx : Tryz.prog.follows .mixedOrders = true := by kernel_rfl
    have f36 : Fence.wide.fn 36 = True := rfl
    by_cases he : 0 < e0
    · have hd : decide (0 < e0) = true := by simpa using he
      by_cases hge : e0 ≤ addr x.1
      · gi_wp2
        gi_region_with_o (gi_at_call 36; refine (CallsIn.inRound l' (callsIn_wide.2 (addr_any x.1 _))).mono ?_; rintro e w' ⟨rfl, rfl⟩)
        all_goals
          have KF4 : Hid (KeepsFrom w7.heap.size W3 W3.drew) := Lib.hid (keepsFrom_mod ((Mod.refl NoB W3).drew))
          gi_wp2
          exact ⟨KF4.out, pre, x, rfl, .inl ⟨rfl, by unfold aheadP; exact decide_eq_false (by omega), HINV.out.mod ((Mod.refl NoB W3).drew)⟩⟩
      · have HAH : Hid (aheadP e0 x = true) := Lib.hid (by unfold aheadP; exact decide_eq_true (by omega))
        gi_wp2
        gi_region_with_o (gi_at_call 36; refine (CallsIn.inRound l' (callsIn_wide.2 (addr_any x.1 _))).mono ?_; rintro e w' ⟨rfl, rfl⟩)
        all_goals
          have HI4 := Lib.hid (HINV.out.mod ((Mod.refl NoB W3).drew))
          have KP4 : Hid (KeepsI (E + 1) 2 W3 W3.drew) := Lib.hid (KeepsI.ofMod ((Mod.refl NoB W3).drew) (Array.getElem?_eq_some_iff.1 BT.out).1)
          have KF4 : Hid (KeepsFrom w7.heap.size W3 W3.drew) := Lib.hid (keepsFrom_mod ((Mod.refl NoB W3).drew))
          have bt4 : W3.drew.heap[E + 1]? = _ := BT.out
          have hrow4 := own_mod' HROW.out ((Mod.refl NoB W3).drew) (fun _ _ x => x)
          generalize W3.drew = W4 at *
          have HROW4 := Lib.hid hrow4; have BT4 := Lib.hid bt4
          have u2 := cell_of bt4 2 (v := .slice av pre.length cap) rfl
          have b4 := cell_of HI4.out.ask 4 (v := .int .i64 most) rfl
          clear e1 t2 a4 hrow4
          by_cases hlm : pre.length = most
          · have hlI : ((pre.length : Nat) : Int) = (most : Int) := by rw [hlm]
            have u0 := cell_of bt4 0 (v := .int .i64 0) rfl; have u1 := cell_of bt4 1 (v := .string ⟨#[]⟩) rfl; have u3 := cell_of bt4 3 (v := .bool false) rfl; have u4 := cell_of bt4 4 (v := .string ⟨#[]⟩) rfl; have u5 := cell_of bt4 5 (v := .int .i64 0) rfl
            have f3 := frozen_of bt4 3; have f4 := frozen_of bt4 4
            have br := HI4.out.res
            have r0 := cell_of br 0 (v := .int .i64 0) rfl; have r1 := cell_of br 1 (v := .string ⟨#[]⟩) rfl; have r2 := cell_of br 2 (v := .slice none 0 0) rfl; have r3 := cell_of br 3 (v := .bool false) rfl; have r4 := cell_of br 4 (v := .string ⟨#[]⟩) rfl; have r5 := cell_of br 5 (v := .int .i64 0) rfl
            have g0 := frozen_of br 0; have g1 := frozen_of br 1; have g2 := frozen_of br 2; have g3 := frozen_of br 3; have g4 := frozen_of br 4; have g5 := frozen_of br 5
            clear bt4 br
            gi_wp2
            obtain ⟨p1, p2, p3, p4, p5⟩ := mark2 BT4.out (by decide) HROW4.out (by omega) x.1
            have hres := HI4.out.res
            rw [← p5 (w.heap.size + 1) (by omega)] at hres
            obtain ⟨s1, s2, s3, s4⟩ := copy6 (u := .slice av pre.length cap) (m := true) (nx := x.1) hres (by decide) p2 (by omega)
            rw [hlm] at s1 s2 s3 s4
            refine ⟨KF4.out.trans ((p3.trans s3).from _), pre, x, rfl, .inr ⟨rfl, HAH.out, hlm, HI4.out.ok, HI4.out.below.trans (p4.trans s4), _, s1, ?_⟩⟩
            rw [hlm]
            exact s2
          · have hlI : ¬ ((pre.length : Nat) : Int) = (most : Int) := by omega
            have hle4 := HI4.out.le
            gi_wp2_with (gi_at_builtin; go_loud (refine wpListIn_append_own_at _ rfl _ _ 35 rfl w.heap.size 43 i0 z0 2 i0.bytes tyIts hi hz0 hz1 rfl hz2 (by decide) _ _ _ rfl (HROW4.out.alloc _) ⟨W4.heap.size, 0, none⟩ 1 1 (encIt x) rfl rfl (by intro j u hu; exact newsIt (heap_alloc_new _ _) hu) (by intro u hu; exact oneIt hu) (by unfold maxLen; omega) (by exact Nat.le_trans (Nat.mul_le_mul (by omega : pre.length + 1 ≤ 2000000) hz3) (by decide)) (by have := HI4.out.below.size; simp; omega) ?_; intro v' w8 hown' hgrow hnn hat; obtain ⟨g', cap', rfl⟩ := ownsRow_succ hown'; obtain ⟨p1, p2, p3, p4, p5, p6⟩ := field_app (bi := 2) BT4.out rfl (by decide) HROW4.out hgrow hown' hat HI4.out.below.size (by omega); have hc1 := cell_of p1 2 (v := .slice av pre.length cap) rfl; have hf1 := frozen_of p1 2; have P1 := Lib.hid p1; have P2 := Lib.hid p2; have P3 := Lib.hid p3; have P4 := Lib.hid p4; have P5 := Lib.hid p5; have P6 := Lib.hid p6; clear hown' hgrow hnn hat p1 p2 p3 p4 p5 p6))
            refine ⟨KF4.out.trans (P3.out.from _), KP4.out.trans P5.out, ?_⟩
            have gone : ∀ (b : Nat) (cs : Array Value) (t : TypeId), W4.heap[b]? = some (.cells cs t (0, 0)) → t ≠ 43 → b ≠ E + 1 → (w8.setCell ⟨E + 1, 2, none⟩ (.slice (some ⟨g', 0, none⟩) (pre.length + 1) cap')).heap[b]? = some (.cells cs t (0, 0)) := fun b cs t hb ht hne =>
              (P6.out b (Array.getElem?_eq_some_iff.1 hb).1 hne (not_own_row hb ht HROW4.out)).trans hb
            have hset := heap_set P1.out 2 (.slice (some ⟨g', 0, none⟩) (pre.length + 1) cap')
            refine ⟨gone _ _ _ HI4.out.ask (by decide) (by omega), gone _ _ _ HI4.out.res (by decide) (by omega), gone _ _ _ HI4.out.eb (by decide) (by omega), ⟨_, by simpa [toldCs] using hset, ?_⟩, HI4.out.below.trans P4.out, ?_, by simp; omega⟩
            · rw [List.length_append, List.flatMap_append]
              simpa using P2.out
            · intro y hy
              rcases List.mem_append.1 hy with hy | hy
              · exact HI4.out.ok y hy
              · obtain rfl := List.mem_singleton.1 hy
                exact HAH.out
    · have HAH : Hid (aheadP e0 x = true) := Lib.hid (by unfold aheadP; exact decide_eq_true (by have := hein.1; omega))
      gi_wp2
      gi_region_with_o (fail)
      all_goals
        have HI4 := Lib.hid (HINV.out.mod ((Mod.refl NoB W3).drew))
        have KP4 : Hid (KeepsI (E + 1) 2 W3 W3.drew) := Lib.hid (KeepsI.ofMod ((Mod.refl NoB W3).drew) (Array.getElem?_eq_some_iff.1 BT.out).1)
        have KF4 : Hid (KeepsFrom w7.heap.size W3 W3.drew) := Lib.hid (keepsFrom_mod ((Mod.refl NoB W3).drew))
        have bt4 : W3.drew.heap[E + 1]? = _ := BT.out
        have hrow4 := own_mod' HROW.out ((Mod.refl NoB W3).drew) (fun _ _ x => x)
        generalize W3.drew = W4 at *
        have HROW4 := Lib.hid hrow4; have BT4 := Lib.hid bt4
        have u2 := cell_of bt4 2 (v := .slice av pre.length cap) rfl
        have b4 := cell_of HI4.out.ask 4 (v := .int .i64 most) rfl
        clear e1 t2 a4 hrow4
        by_cases hlm : pre.length = most
        · have hlI : ((pre.length : Nat) : Int) = (most : Int) := by rw [hlm]
          have u0 := cell_of bt4 0 (v := .int .i64 0) rfl; have u1 := cell_of bt4 1 (v := .string ⟨#[]⟩) rfl; have u3 := cell_of bt4 3 (v := .bool false) rfl; have u4 := cell_of bt4 4 (v := .string ⟨#[]⟩) rfl; have u5 := cell_of bt4 5 (v := .int .i64 0) rfl
          have f3 := frozen_of bt4 3; have f4 := frozen_of bt4 4
          have br := HI4.out.res
          have r0 := cell_of br 0 (v := .int .i64 0) rfl; have r1 := cell_of br 1 (v := .string ⟨#[]⟩) rfl; have r2 := cell_of br 2 (v := .slice none 0 0) rfl; have r3 := cell_of br 3 (v := .bool false) rfl; have r4 := cell_of br 4 (v := .string ⟨#[]⟩) rfl; have r5 := cell_of br 5 (v := .int .i64 0) rfl
          have g0 := frozen_of br 0; have g1 := frozen_of br 1; have g2 := frozen_of br 2; have g3 := frozen_of br 3; have g4 := frozen_of br 4; have g5 := frozen_of br 5
          clear bt4 br
          gi_wp2
          obtain ⟨p1, p2, p3, p4, p5⟩ := mark2 BT4.out (by decide) HROW4.out (by omega) x.1
          have hres := HI4.out.res
          rw [← p5 (w.heap.size + 1) (by omega)] at hres
          obtain ⟨s1, s2, s3, s4⟩ := copy6 (u := .slice av pre.length cap) (m := true) (nx := x.1) hres (by decide) p2 (by omega)
          rw [hlm] at s1 s2 s3 s4
          refine ⟨KF4.out.trans ((p3.trans s3).from _), pre, x, rfl, .inr ⟨rfl, HAH.out, hlm, HI4.out.ok, HI4.out.below.trans (p4.trans s4), _, s1, ?_⟩⟩
          rw [hlm]
          exact s2
        · have hlI : ¬ ((pre.length : Nat) : Int) = (most : Int) := by omega
          have hle4 := HI4.out.le
          gi_wp2_with (gi_at_builtin; go_loud (refine wpListIn_append_own_at _ rfl _ _ 35 rfl w.heap.size 43 i0 z0 2 i0.bytes tyIts hi hz0 hz1 rfl hz2 (by decide) _ _ _ rfl (HROW4.out.alloc _) ⟨W4.heap.size, 0, none⟩ 1 1 (encIt x) rfl rfl (by intro j u hu; exact newsIt (heap_alloc_new _ _) hu) (by intro u hu; exact oneIt hu) (by unfold maxLen; omega) (by exact Nat.le_trans (Nat.mul_le_mul (by omega : pre.length + 1 ≤ 2000000) hz3) (by decide)) (by have := HI4.out.below.size; simp; omega) ?_; intro v' w8 hown' hgrow hnn hat; obtain ⟨g', cap', rfl⟩ := ownsRow_succ hown'; obtain ⟨p1, p2, p3, p4, p5, p6⟩ := field_app (bi := 2) BT4.out rfl (by decide) HROW4.out hgrow hown' hat HI4.out.below.size (by omega); have hc1 := cell_of p1 2 (v := .slice av pre.length cap) rfl; have hf1 := frozen_of p1 2; have P1 := Lib.hid p1; have P2 := Lib.hid p2; have P3 := Lib.hid p3; have P4 := Lib.hid p4; have P5 := Lib.hid p5; have P6 := Lib.hid p6; clear hown' hgrow hnn hat p1 p2 p3 p4 p5 p6))
          refine ⟨KF4.out.trans (P3.out.from _), KP4.out.trans P5.out, ?_⟩
          have gone : ∀ (b : Nat) (cs : Array Value) (t : TypeId), W4.heap[b]? = some (.cells cs t (0, 0)) → t ≠ 43 → b ≠ E + 1 → (w8.setCell ⟨E + 1, 2, none⟩ (.slice (some ⟨g', 0, none⟩) (pre.length + 1) cap')).heap[b]? = some (.cells cs t (0, 0)) := fun b cs t hb ht hne =>
            (P6.out b (Array.getElem?_eq_some_iff.1 hb).1 hne (not_own_row hb ht HROW4.out)).trans hb
          have hset := heap_set P1.out 2 (.slice (some ⟨g', 0, none⟩) (pre.length + 1) cap')
          refine ⟨gone _ _ _ HI4.out.ask (by decide) (by omega), gone _ _ _ HI4.out.res (by decide) (by omega), gone _ _ _ HI4.out.eb (by decide) (by omega), ⟨_, by simpa [toldCs] using hset, ?_⟩, HI4.out.below.trans P4.out, ?_, by simp; omega⟩
          · rw [List.length_append, List.flatMap_append]
            simpa using P2.out
          · intro y hy
            rcases List.mem_append.1 hy with hy | hy
            · exact HI4.out.ok y hy
            · obtain rfl := List.mem_singleton.1 hy
              exact HAH.out
  case done =>
    rintro D W3 hD hinv hK
    obtain ⟨p, hp⟩ : ∃ p, p = rangeIts k tk xs := ⟨_, rfl⟩
    have SCE : Hid (scanE e0 tk most (rangeIts k tk xs) = if 0 < e0 ∧ toB tk (firstB e0) = true then ⟨p, true, firstB e0⟩ else ⟨p, false, ⟨#[]⟩⟩) := Lib.hid (by rw [hp]; exact scanE_all hinv.ok hinv.le)
    rw [← hp] at hinv
    have HINV := Lib.hid hinv; have HK := Lib.hid hK
    have e1 := cell_of hinv.eb 0 (v := .int .u64 e0) rfl
    clear hinv hK hseq hp
    go_wp2_with fail
    refine (first_any e0 hein _).mono ?_
    rintro e W4 ⟨rfl, hm4⟩
    have HI4 := Lib.hid (HINV.out.mod hm4)
    have HK4 : Hid (W4.heap[D]? = some (.deferred (some []))) := Lib.hid ((hm4.block D (Array.getElem?_eq_some_iff.1 HK.out).1 (fun x => x)).trans HK.out)
    have e1 := cell_of HI4.out.eb 0 (v := .int .u64 e0) rfl
    have a3 := cell_of HI4.out.ask 3 (v := .string tk) rfl
    clear hm4
    by_cases he : 0 < e0
    · by_cases hb0 : tk = ⟨#[]⟩
      · have HC : Hid (0 < e0 ∧ toB tk (firstB e0) = true) := Lib.hid ⟨he, by simp [toB, hb0]⟩
        have hbl : tk.toList = [] := by rw [hb0, Lib.toList_data]
        have hbi : tk.toList.isEmpty = true := by rw [hbl]; rfl
        obtain ⟨WW, rfl⟩ : ∃ WW, WW = W4 := ⟨_, rfl⟩
        have HIW := HI4; have HKW := HK4
        obtain ⟨u, bt, hrow⟩ := HIW.out.t
        obtain ⟨av, cap, hu, _⟩ := own_slAt (k := 2) (enc := encIt) (fun _ => rfl) hrow
        subst hu
        have HROW := Lib.hid hrow; have BT := Lib.hid bt
        have br := HIW.out.res
        have u0 := cell_of bt 0 (v := .int .i64 0) rfl; have u1 := cell_of bt 1 (v := .string ⟨#[]⟩) rfl; have u2 := cell_of bt 2 (v := .slice av p.length cap) rfl; have u3 := cell_of bt 3 (v := .bool false) rfl; have u4 := cell_of bt 4 (v := .string ⟨#[]⟩) rfl; have u5 := cell_of bt 5 (v := .int .i64 0) rfl
        have f3 := frozen_of bt 3; have f4 := frozen_of bt 4
        have r0 := cell_of br 0 (v := .int .i64 0) rfl; have r1 := cell_of br 1 (v := .string ⟨#[]⟩) rfl; have r2 := cell_of br 2 (v := .slice none 0 0) rfl; have r3 := cell_of br 3 (v := .bool false) rfl; have r4 := cell_of br 4 (v := .string ⟨#[]⟩) rfl; have r5 := cell_of br 5 (v := .int .i64 0) rfl
        have g0 := frozen_of br 0; have g1 := frozen_of br 1; have g2 := frozen_of br 2; have g3 := frozen_of br 3; have g4 := frozen_of br 4; have g5 := frozen_of br 5
        clear bt br hrow
        go_wp2_with fail
        have hSR : scanR st k tk most xs = ⟨p, true, firstB e0⟩ := by unfold scanR; rw [he0, SCE.out, if_pos HC.out]
        obtain ⟨p1, p2, p3, p4, p5⟩ := mark2 BT.out (by decide) HROW.out (by omega) (firstB e0)
        have hres := HIW.out.res
        rw [← p5 (w.heap.size + 1) (by omega)] at hres
        obtain ⟨s1, s2, s3, s4⟩ := copy6 (u := .slice av p.length cap) (m := true) (nx := firstB e0) hres (by decide) p2 (by omega)
        have KO := p3.trans s3
        have BL := p4.trans s4
        have hKK := KO.same D _ HKW.out rfl
        first | rw [Exit.noGoto_ret] | skip
        gi_wp2
        refine ⟨by simp, .inl ⟨_, _, rfl, run_takeDeferred hKK, ?_⟩⟩
        refine ⟨_, results_told (u := .slice av p.length cap) rfl rfl ((World.putObj_heap_other (by omega)).trans s1), .slice av p.length cap, by rw [hSR], ?_, Mod.ofBelow ((HIW.out.below.trans BL).trans (belowK_b (w := w) (Nat.le_refl _) _ D _ _ (by omega) hKK rfl rfl))⟩
        rw [hSR]
        exact ownsRow_putObj s2 _ hKK rfl
      · have hbl : ¬ tk.toList = [] := fun e => hb0 (by
          cases tk with | mk d => exact congrArg ByteArray.mk (Array.ext' (by rw [Lib.toList_data] at e; exact e)))
        have hbi : tk.toList.isEmpty = false := by
          cases h : tk.toList with
          | nil => exact absurd h hbl
          | cons _ _ => rfl
        go_wp2_with fail
        refine (less_any (firstB e0) tk _ (by have := firstB_size e0; omega) hto).mono ?_
        rintro e WW ⟨rfl, hm5⟩
        have HIW := Lib.hid (HI4.out.mod hm5)
        have HKW : Hid (WW.heap[D]? = some (.deferred (some []))) := Lib.hid ((hm5.block D (Array.getElem?_eq_some_iff.1 HK4.out).1 (fun x => x)).trans HK4.out)
        clear hm5 e1 a3
        cases hkb : keyLt (firstB e0) tk with
        | true =>
          have HC : Hid (0 < e0 ∧ toB tk (firstB e0) = true) := Lib.hid ⟨he, by simp [toB, hkb]⟩
          clear hkb
          obtain ⟨u, bt, hrow⟩ := HIW.out.t
          obtain ⟨av, cap, hu, _⟩ := own_slAt (k := 2) (enc := encIt) (fun _ => rfl) hrow
          subst hu
          have HROW := Lib.hid hrow; have BT := Lib.hid bt
          have br := HIW.out.res
          have u0 := cell_of bt 0 (v := .int .i64 0) rfl; have u1 := cell_of bt 1 (v := .string ⟨#[]⟩) rfl; have u2 := cell_of bt 2 (v := .slice av p.length cap) rfl; have u3 := cell_of bt 3 (v := .bool false) rfl; have u4 := cell_of bt 4 (v := .string ⟨#[]⟩) rfl; have u5 := cell_of bt 5 (v := .int .i64 0) rfl
          have f3 := frozen_of bt 3; have f4 := frozen_of bt 4
          have r0 := cell_of br 0 (v := .int .i64 0) rfl; have r1 := cell_of br 1 (v := .string ⟨#[]⟩) rfl; have r2 := cell_of br 2 (v := .slice none 0 0) rfl; have r3 := cell_of br 3 (v := .bool false) rfl; have r4 := cell_of br 4 (v := .string ⟨#[]⟩) rfl; have r5 := cell_of br 5 (v := .int .i64 0) rfl
          have g0 := frozen_of br 0; have g1 := frozen_of br 1; have g2 := frozen_of br 2; have g3 := frozen_of br 3; have g4 := frozen_of br 4; have g5 := frozen_of br 5
          clear bt br hrow
          go_wp2_with fail
          have hSR : scanR st k tk most xs = ⟨p, true, firstB e0⟩ := by unfold scanR; rw [he0, SCE.out, if_pos HC.out]
          obtain ⟨p1, p2, p3, p4, p5⟩ := mark2 BT.out (by decide) HROW.out (by omega) (firstB e0)
          have hres := HIW.out.res
          rw [← p5 (w.heap.size + 1) (by omega)] at hres
          obtain ⟨s1, s2, s3, s4⟩ := copy6 (u := .slice av p.length cap) (m := true) (nx := firstB e0) hres (by decide) p2 (by omega)
          have KO := p3.trans s3
          have BL := p4.trans s4
          have hKK := KO.same D _ HKW.out rfl
          first | rw [Exit.noGoto_ret] | skip
          gi_wp2
          refine ⟨by simp, .inl ⟨_, _, rfl, run_takeDeferred hKK, ?_⟩⟩
          refine ⟨_, results_told (u := .slice av p.length cap) rfl rfl ((World.putObj_heap_other (by omega)).trans s1), .slice av p.length cap, by rw [hSR], ?_, Mod.ofBelow ((HIW.out.below.trans BL).trans (belowK_b (w := w) (Nat.le_refl _) _ D _ _ (by omega) hKK rfl rfl))⟩
          rw [hSR]
          exact ownsRow_putObj s2 _ hKK rfl
        | false =>
          have HC : Hid (¬ (0 < e0 ∧ toB tk (firstB e0) = true)) := Lib.hid (fun h => by have h2 := h.2; simp [toB, hb0, hkb] at h2)
          clear hkb
          obtain ⟨u, bt, hrow⟩ := HIW.out.t
          obtain ⟨av, cap, hu, _⟩ := own_slAt (k := 2) (enc := encIt) (fun _ => rfl) hrow
          subst hu
          have HROW := Lib.hid hrow; have BT := Lib.hid bt
          have br := HIW.out.res
          have u0 := cell_of bt 0 (v := .int .i64 0) rfl; have u1 := cell_of bt 1 (v := .string ⟨#[]⟩) rfl; have u2 := cell_of bt 2 (v := .slice av p.length cap) rfl; have u3 := cell_of bt 3 (v := .bool false) rfl; have u4 := cell_of bt 4 (v := .string ⟨#[]⟩) rfl; have u5 := cell_of bt 5 (v := .int .i64 0) rfl
          have f3 := frozen_of bt 3; have f4 := frozen_of bt 4
          have r0 := cell_of br 0 (v := .int .i64 0) rfl; have r1 := cell_of br 1 (v := .string ⟨#[]⟩) rfl; have r2 := cell_of br 2 (v := .slice none 0 0) rfl; have r3 := cell_of br 3 (v := .bool false) rfl; have r4 := cell_of br 4 (v := .string ⟨#[]⟩) rfl; have r5 := cell_of br 5 (v := .int .i64 0) rfl
          have g0 := frozen_of br 0; have g1 := frozen_of br 1; have g2 := frozen_of br 2; have g3 := frozen_of br 3; have g4 := frozen_of br 4; have g5 := frozen_of br 5
          clear bt br hrow
          go_wp2_with fail
          have hSR : scanR st k tk most xs = ⟨p, false, ⟨#[]⟩⟩ := by unfold scanR; rw [he0, SCE.out, if_neg HC.out]
          obtain ⟨s1, s2, KO, BL⟩ := copy6 (u := .slice av p.length cap) (m := false) (nx := ⟨#[]⟩) HIW.out.res (by decide) HROW.out (by omega)
          have hKK := KO.same D _ HKW.out rfl
          first | rw [Exit.noGoto_ret] | skip
          gi_wp2
          refine ⟨by simp, .inl ⟨_, _, rfl, run_takeDeferred hKK, ?_⟩⟩
          refine ⟨_, results_told (u := .slice av p.length cap) rfl rfl ((World.putObj_heap_other (by omega)).trans s1), .slice av p.length cap, by rw [hSR], ?_, Mod.ofBelow ((HIW.out.below.trans BL).trans (belowK_b (w := w) (Nat.le_refl _) _ D _ _ (by omega) hKK rfl rfl))⟩
          rw [hSR]
          exact ownsRow_putObj s2 _ hKK rfl
    · have HC : Hid (¬ (0 < e0 ∧ toB tk (firstB e0) = true)) := Lib.hid (fun h => he h.1)
      obtain ⟨WW, rfl⟩ : ∃ WW, WW = W4 := ⟨_, rfl⟩
      have HIW := HI4; have HKW := HK4
      obtain ⟨u, bt, hrow⟩ := HIW.out.t
      obtain ⟨av, cap, hu, _⟩ := own_slAt (k := 2) (enc := encIt) (fun _ => rfl) hrow
      subst hu
      have HROW := Lib.hid hrow; have BT := Lib.hid bt
      have br := HIW.out.res
      have u0 := cell_of bt 0 (v := .int .i64 0) rfl; have u1 := cell_of bt 1 (v := .string ⟨#[]⟩) rfl; have u2 := cell_of bt 2 (v := .slice av p.length cap) rfl; have u3 := cell_of bt 3 (v := .bool false) rfl; have u4 := cell_of bt 4 (v := .string ⟨#[]⟩) rfl; have u5 := cell_of bt 5 (v := .int .i64 0) rfl
      have f3 := frozen_of bt 3; have f4 := frozen_of bt 4
      have r0 := cell_of br 0 (v := .int .i64 0) rfl; have r1 := cell_of br 1 (v := .string ⟨#[]⟩) rfl; have r2 := cell_of br 2 (v := .slice none 0 0) rfl; have r3 := cell_of br 3 (v := .bool false) rfl; have r4 := cell_of br 4 (v := .string ⟨#[]⟩) rfl; have r5 := cell_of br 5 (v := .int .i64 0) rfl
      have g0 := frozen_of br 0; have g1 := frozen_of br 1; have g2 := frozen_of br 2; have g3 := frozen_of br 3; have g4 := frozen_of br 4; have g5 := frozen_of br 5
      clear bt br hrow
      go_wp2_with fail
      have hSR : scanR st k tk most xs = ⟨p, false, ⟨#[]⟩⟩ := by unfold scanR; rw [he0, SCE.out, if_neg HC.out]
      obtain ⟨s1, s2, KO, BL⟩ := copy6 (u := .slice av p.length cap) (m := false) (nx := ⟨#[]⟩) HIW.out.res (by decide) HROW.out (by omega)
      have hKK := KO.same D _ HKW.out rfl
      first | rw [Exit.noGoto_ret] | skip
      gi_wp2
      refine ⟨by simp, .inl ⟨_, _, rfl, run_takeDeferred hKK, ?_⟩⟩
      refine ⟨_, results_told (u := .slice av p.length cap) rfl rfl ((World.putObj_heap_other (by omega)).trans s1), .slice av p.length cap, by rw [hSR], ?_, Mod.ofBelow ((HIW.out.below.trans BL).trans (belowK_b (w := w) (Nat.le_refl _) _ D _ _ (by omega) hKK rfl rfl))⟩
      rw [hSR]
      exact ownsRow_putObj s2 _ hKK rfl
  case stop =>
    rintro D c pre W3 hD hpre ⟨p, x, rfl, (⟨rfl, hx, hinv⟩ | ⟨rfl, hx, hlm, hok, hbel, u, br, hrow⟩)⟩ hK
    · obtain ⟨rest, hr⟩ := hpre
      have SCE : Hid (scanE e0 tk most (rangeIts k tk xs) = if 0 < e0 ∧ toB tk (firstB e0) = true then ⟨p, true, firstB e0⟩ else ⟨p, false, ⟨#[]⟩⟩) := Lib.hid (by
        rw [← hr, List.append_assoc, List.singleton_append]; exact scanE_cut hinv.ok hinv.le hx)
      have HINV := Lib.hid hinv; have HK := Lib.hid hK
      have e1 := cell_of hinv.eb 0 (v := .int .u64 e0) rfl
      clear hinv hK hseq hr
      gi_wp2
      go_wp2_with fail
      refine (first_any e0 hein _).mono ?_
      rintro e W4 ⟨rfl, hm4⟩
      have HI4 := Lib.hid (HINV.out.mod hm4)
      have HK4 : Hid (W4.heap[D]? = some (.deferred (some []))) := Lib.hid ((hm4.block D (Array.getElem?_eq_some_iff.1 HK.out).1 (fun x => x)).trans HK.out)
      have e1 := cell_of HI4.out.eb 0 (v := .int .u64 e0) rfl
      have a3 := cell_of HI4.out.ask 3 (v := .string tk) rfl
      clear hm4
      by_cases he : 0 < e0
      · by_cases hb0 : tk = ⟨#[]⟩
        · have HC : Hid (0 < e0 ∧ toB tk (firstB e0) = true) := Lib.hid ⟨he, by simp [toB, hb0]⟩
          have hbl : tk.toList = [] := by rw [hb0, Lib.toList_data]
          have hbi : tk.toList.isEmpty = true := by rw [hbl]; rfl
          obtain ⟨WW, rfl⟩ : ∃ WW, WW = W4 := ⟨_, rfl⟩
          have HIW := HI4; have HKW := HK4
          obtain ⟨u, bt, hrow⟩ := HIW.out.t
          obtain ⟨av, cap, hu, _⟩ := own_slAt (k := 2) (enc := encIt) (fun _ => rfl) hrow
          subst hu
          have HROW := Lib.hid hrow; have BT := Lib.hid bt
          have br := HIW.out.res
          have u0 := cell_of bt 0 (v := .int .i64 0) rfl; have u1 := cell_of bt 1 (v := .string ⟨#[]⟩) rfl; have u2 := cell_of bt 2 (v := .slice av p.length cap) rfl; have u3 := cell_of bt 3 (v := .bool false) rfl; have u4 := cell_of bt 4 (v := .string ⟨#[]⟩) rfl; have u5 := cell_of bt 5 (v := .int .i64 0) rfl
          have f3 := frozen_of bt 3; have f4 := frozen_of bt 4
          have r0 := cell_of br 0 (v := .int .i64 0) rfl; have r1 := cell_of br 1 (v := .string ⟨#[]⟩) rfl; have r2 := cell_of br 2 (v := .slice none 0 0) rfl; have r3 := cell_of br 3 (v := .bool false) rfl; have r4 := cell_of br 4 (v := .string ⟨#[]⟩) rfl; have r5 := cell_of br 5 (v := .int .i64 0) rfl
          have g0 := frozen_of br 0; have g1 := frozen_of br 1; have g2 := frozen_of br 2; have g3 := frozen_of br 3; have g4 := frozen_of br 4; have g5 := frozen_of br 5
          clear bt br hrow
          go_wp2_with fail
          have hSR : scanR st k tk most xs = ⟨p, true, firstB e0⟩ := by unfold scanR; rw [he0, SCE.out, if_pos HC.out]
          obtain ⟨p1, p2, p3, p4, p5⟩ := mark2 BT.out (by decide) HROW.out (by omega) (firstB e0)
          have hres := HIW.out.res
          rw [← p5 (w.heap.size + 1) (by omega)] at hres
          obtain ⟨s1, s2, s3, s4⟩ := copy6 (u := .slice av p.length cap) (m := true) (nx := firstB e0) hres (by decide) p2 (by omega)
          have KO := p3.trans s3
          have BL := p4.trans s4
          have hKK := KO.same D _ HKW.out rfl
          first | rw [Exit.noGoto_ret] | skip
          gi_wp2
          refine ⟨by simp, .inl ⟨_, _, rfl, run_takeDeferred hKK, ?_⟩⟩
          refine ⟨_, results_told (u := .slice av p.length cap) rfl rfl ((World.putObj_heap_other (by omega)).trans s1), .slice av p.length cap, by rw [hSR], ?_, Mod.ofBelow ((HIW.out.below.trans BL).trans (belowK_b (w := w) (Nat.le_refl _) _ D _ _ (by omega) hKK rfl rfl))⟩
          rw [hSR]
          exact ownsRow_putObj s2 _ hKK rfl
        · have hbl : ¬ tk.toList = [] := fun e => hb0 (by
            cases tk with | mk d => exact congrArg ByteArray.mk (Array.ext' (by rw [Lib.toList_data] at e; exact e)))
          have hbi : tk.toList.isEmpty = false := by
            cases h : tk.toList with
            | nil => exact absurd h hbl
            | cons _ _ => rfl
          go_wp2_with fail
          refine (less_any (firstB e0) tk _ (by have := firstB_size e0; omega) hto).mono ?_
          rintro e WW ⟨rfl, hm5⟩
          have HIW := Lib.hid (HI4.out.mod hm5)
          have HKW : Hid (WW.heap[D]? = some (.deferred (some []))) := Lib.hid ((hm5.block D (Array.getElem?_eq_some_iff.1 HK4.out).1 (fun x => x)).trans HK4.out)
          clear hm5 e1 a3
          cases hkb : keyLt (firstB e0) tk with
          | true =>
            have HC : Hid (0 < e0 ∧ toB tk (firstB e0) = true) := Lib.hid ⟨he, by simp [toB, hkb]⟩
            clear hkb
            obtain ⟨u, bt, hrow⟩ := HIW.out.t
            obtain ⟨av, cap, hu, _⟩ := own_slAt (k := 2) (enc := encIt) (fun _ => rfl) hrow
            subst hu
            have HROW := Lib.hid hrow; have BT := Lib.hid bt
            have br := HIW.out.res
            have u0 := cell_of bt 0 (v := .int .i64 0) rfl; have u1 := cell_of bt 1 (v := .string ⟨#[]⟩) rfl; have u2 := cell_of bt 2 (v := .slice av p.length cap) rfl; have u3 := cell_of bt 3 (v := .bool false) rfl; have u4 := cell_of bt 4 (v := .string ⟨#[]⟩) rfl; have u5 := cell_of bt 5 (v := .int .i64 0) rfl
            have f3 := frozen_of bt 3; have f4 := frozen_of bt 4
            have r0 := cell_of br 0 (v := .int .i64 0) rfl; have r1 := cell_of br 1 (v := .string ⟨#[]⟩) rfl; have r2 := cell_of br 2 (v := .slice none 0 0) rfl; have r3 := cell_of br 3 (v := .bool false) rfl; have r4 := cell_of br 4 (v := .string ⟨#[]⟩) rfl; have r5 := cell_of br 5 (v := .int .i64 0) rfl
            have g0 := frozen_of br 0; have g1 := frozen_of br 1; have g2 := frozen_of br 2; have g3 := frozen_of br 3; have g4 := frozen_of br 4; have g5 := frozen_of br 5
            clear bt br hrow
            go_wp2_with fail
            have hSR : scanR st k tk most xs = ⟨p, true, firstB e0⟩ := by unfold scanR; rw [he0, SCE.out, if_pos HC.out]
            obtain ⟨p1, p2, p3, p4, p5⟩ := mark2 BT.out (by decide) HROW.out (by omega) (firstB e0)
            have hres := HIW.out.res
            rw [← p5 (w.heap.size + 1) (by omega)] at hres
            obtain ⟨s1, s2, s3, s4⟩ := copy6 (u := .slice av p.length cap) (m := true) (nx := firstB e0) hres (by decide) p2 (by omega)
            have KO := p3.trans s3
            have BL := p4.trans s4
            have hKK := KO.same D _ HKW.out rfl
            first | rw [Exit.noGoto_ret] | skip
            gi_wp2
            refine ⟨by simp, .inl ⟨_, _, rfl, run_takeDeferred hKK, ?_⟩⟩
            refine ⟨_, results_told (u := .slice av p.length cap) rfl rfl ((World.putObj_heap_other (by omega)).trans s1), .slice av p.length cap, by rw [hSR], ?_, Mod.ofBelow ((HIW.out.below.trans BL).trans (belowK_b (w := w) (Nat.le_refl _) _ D _ _ (by omega) hKK rfl rfl))⟩
            rw [hSR]
            exact ownsRow_putObj s2 _ hKK rfl
          | false =>
            have HC : Hid (¬ (0 < e0 ∧ toB tk (firstB e0) = true)) := Lib.hid (fun h => by have h2 := h.2; simp [toB, hb0, hkb] at h2)
            clear hkb
            obtain ⟨u, bt, hrow⟩ := HIW.out.t
            obtain ⟨av, cap, hu, _⟩ := own_slAt (k := 2) (enc := encIt) (fun _ => rfl) hrow
            subst hu
            have HROW := Lib.hid hrow; have BT := Lib.hid bt
            have br := HIW.out.res
            have u0 := cell_of bt 0 (v := .int .i64 0) rfl; have u1 := cell_of bt 1 (v := .string ⟨#[]⟩) rfl; have u2 := cell_of bt 2 (v := .slice av p.length cap) rfl; have u3 := cell_of bt 3 (v := .bool false) rfl; have u4 := cell_of bt 4 (v := .string ⟨#[]⟩) rfl; have u5 := cell_of bt 5 (v := .int .i64 0) rfl
            have f3 := frozen_of bt 3; have f4 := frozen_of bt 4
            have r0 := cell_of br 0 (v := .int .i64 0) rfl; have r1 := cell_of br 1 (v := .string ⟨#[]⟩) rfl; have r2 := cell_of br 2 (v := .slice none 0 0) rfl; have r3 := cell_of br 3 (v := .bool false) rfl; have r4 := cell_of br 4 (v := .string ⟨#[]⟩) rfl; have r5 := cell_of br 5 (v := .int .i64 0) rfl
            have g0 := frozen_of br 0; have g1 := frozen_of br 1; have g2 := frozen_of br 2; have g3 := frozen_of br 3; have g4 := frozen_of br 4; have g5 := frozen_of br 5
            clear bt br hrow
            go_wp2_with fail
            have hSR : scanR st k tk most xs = ⟨p, false, ⟨#[]⟩⟩ := by unfold scanR; rw [he0, SCE.out, if_neg HC.out]
            obtain ⟨s1, s2, KO, BL⟩ := copy6 (u := .slice av p.length cap) (m := false) (nx := ⟨#[]⟩) HIW.out.res (by decide) HROW.out (by omega)
            have hKK := KO.same D _ HKW.out rfl
            first | rw [Exit.noGoto_ret] | skip
            gi_wp2
            refine ⟨by simp, .inl ⟨_, _, rfl, run_takeDeferred hKK, ?_⟩⟩
            refine ⟨_, results_told (u := .slice av p.length cap) rfl rfl ((World.putObj_heap_other (by omega)).trans s1), .slice av p.length cap, by rw [hSR], ?_, Mod.ofBelow ((HIW.out.below.trans BL).trans (belowK_b (w := w) (Nat.le_refl _) _ D _ _ (by omega) hKK rfl rfl))⟩
            rw [hSR]
            exact ownsRow_putObj s2 _ hKK rfl
      · have HC : Hid (¬ (0 < e0 ∧ toB tk (firstB e0) = true)) := Lib.hid (fun h => he h.1)
        obtain ⟨WW, rfl⟩ : ∃ WW, WW = W4 := ⟨_, rfl⟩
        have HIW := HI4; have HKW := HK4
        obtain ⟨u, bt, hrow⟩ := HIW.out.t
        obtain ⟨av, cap, hu, _⟩ := own_slAt (k := 2) (enc := encIt) (fun _ => rfl) hrow
        subst hu
        have HROW := Lib.hid hrow; have BT := Lib.hid bt
        have br := HIW.out.res
        have u0 := cell_of bt 0 (v := .int .i64 0) rfl; have u1 := cell_of bt 1 (v := .string ⟨#[]⟩) rfl; have u2 := cell_of bt 2 (v := .slice av p.length cap) rfl; have u3 := cell_of bt 3 (v := .bool false) rfl; have u4 := cell_of bt 4 (v := .string ⟨#[]⟩) rfl; have u5 := cell_of bt 5 (v := .int .i64 0) rfl
        have f3 := frozen_of bt 3; have f4 := frozen_of bt 4
        have r0 := cell_of br 0 (v := .int .i64 0) rfl; have r1 := cell_of br 1 (v := .string ⟨#[]⟩) rfl; have r2 := cell_of br 2 (v := .slice none 0 0) rfl; have r3 := cell_of br 3 (v := .bool false) rfl; have r4 := cell_of br 4 (v := .string ⟨#[]⟩) rfl; have r5 := cell_of br 5 (v := .int .i64 0) rfl
        have g0 := frozen_of br 0; have g1 := frozen_of br 1; have g2 := frozen_of br 2; have g3 := frozen_of br 3; have g4 := frozen_of br 4; have g5 := frozen_of br 5
        clear bt br hrow
        go_wp2_with fail
        have hSR : scanR st k tk most xs = ⟨p, false, ⟨#[]⟩⟩ := by unfold scanR; rw [he0, SCE.out, if_neg HC.out]
        obtain ⟨s1, s2, KO, BL⟩ := copy6 (u := .slice av p.length cap) (m := false) (nx := ⟨#[]⟩) HIW.out.res (by decide) HROW.out (by omega)
        have hKK := KO.same D _ HKW.out rfl
        first | rw [Exit.noGoto_ret] | skip
        gi_wp2
        refine ⟨by simp, .inl ⟨_, _, rfl, run_takeDeferred hKK, ?_⟩⟩
        refine ⟨_, results_told (u := .slice av p.length cap) rfl rfl ((World.putObj_heap_other (by omega)).trans s1), .slice av p.length cap, by rw [hSR], ?_, Mod.ofBelow ((HIW.out.below.trans BL).trans (belowK_b (w := w) (Nat.le_refl _) _ D _ _ (by omega) hKK rfl rfl))⟩
        rw [hSR]
        exact ownsRow_putObj s2 _ hKK rfl
    · obtain ⟨rest, hr⟩ := hpre
      have SCE : Hid (scanE e0 tk most (rangeIts k tk xs) = ⟨p, true, x.1⟩) := Lib.hid (by
        rw [← hr, List.append_assoc, List.singleton_append]; exact scanE_more hok hlm hx)
      have HK := Lib.hid hK
      clear hK hseq hr
      gi_wp2
      have hSR : scanR st k tk most xs = ⟨p, true, x.1⟩ := by unfold scanR; rw [he0, SCE.out]
      refine ⟨by simp, .inl ⟨_, _, rfl, run_takeDeferred HK.out, ?_⟩⟩
      obtain ⟨av, cap, hu, _⟩ := own_slAt (k := 2) (enc := encIt) (fun _ => rfl) hrow
      subst hu
      refine ⟨_, results_told (u := .slice av p.length cap) rfl rfl ((World.putObj_heap_other (by omega)).trans br), .slice av p.length cap, by rw [hSR], ?_, Mod.ofBelow (hbel.trans (belowK_b (w := w) (Nat.le_refl _) _ D _ _ (by omega) HK.out rfl rfl))⟩
      rw [hSR]
      exact ownsRow_putObj hrow _ HK.out rfl
end Go.Proofs.YtmagddchjidamaaGreatDoor
