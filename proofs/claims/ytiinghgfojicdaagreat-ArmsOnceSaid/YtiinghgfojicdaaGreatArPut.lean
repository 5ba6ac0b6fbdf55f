/- An element more in one of two rows of tests of the call's own. No conditions. -/
import Derived.Test.YtiinghgfojicdaaGreatArBuild
import Derived.Deep.MidRow
set_option linter.unusedVariables false
set_option linter.unusedSimpArgs false
namespace Go.Proofs.YtiinghgfojicdaaGreat
open Go.RowKit Go.RowG Go.FRow Go.GMem
set_option linter.unusedVariables false
set_option maxRecDepth 100000

/-- What an element of two rows may lead to. -/
abbrev Free (S : Nat → Prop) (base : Nat) (w : World) (v u : Value) : Nat → Prop := fun b => (S b ∨ base ≤ b) ∧ b < w.heap.size ∧ some b ≠ v.ownBlock ∧ some b ≠ u.ownBlock
theorem Two.put {S : Nat → Prop} {w w' : World} {base : Nat} {v v' u : Value} {ys ns : List R} {xs zs : List Value} {x : R} {B : Option Addr} {rc k : Nat} (ht : Two S 126 2 w base v u ys.length ns.length (encRs ys) (encRs ns) xs zs)
    (hrow : GRow w (Free S base w v u) B x.2.length (encTs x.2)) (hk : k = x.2.length) (h1 : k ≤ rc) (h2 : rc ≤ maxLen)
    (hown : w'.ownsRow base 126 2 v' (ys.length + 1) (xs ++ [.int .i64 (x.1 : Int), .slice B k rc])) (hg : w.grownBy w' v.ownBlock) (hv : v'.ownBlock = v.ownBlock ∨ v'.ownBlock = some w.heap.size) :
    Two S 126 2 w' base v' u (ys ++ [x]).length ns.length (encRs (ys ++ [x])) (encRs ns) (xs ++ [.int .i64 (x.1 : Int), .slice B k rc]) zs := by
  subst hk
  rw [List.length_append, encRs_app]
  exact ht.left ⟨_, rfl, rfl, B, rc, _, rfl, h1, h2, hrow, rfl⟩ hown hg hv
theorem Two.putr {S : Nat → Prop} {w w' : World} {base : Nat} {v u u' : Value} {ys ns : List R} {xs zs : List Value} {x : R} {B : Option Addr} {rc k : Nat} (ht : Two S 126 2 w base v u ys.length ns.length (encRs ys) (encRs ns) xs zs)
    (hrow : GRow w (Free S base w v u) B x.2.length (encTs x.2)) (hk : k = x.2.length) (h1 : k ≤ rc) (h2 : rc ≤ maxLen)
    (hown : w'.ownsRow base 126 2 u' (ns.length + 1) (zs ++ [.int .i64 (x.1 : Int), .slice B k rc])) (hg : w.grownBy w' u.ownBlock) (hv : u'.ownBlock = u.ownBlock ∨ u'.ownBlock = some w.heap.size) :
    Two S 126 2 w' base v u' ys.length (ns ++ [x]).length (encRs ys) (encRs (ns ++ [x])) xs (zs ++ [.int .i64 (x.1 : Int), .slice B k rc]) :=
  (ht.symm.put (hrow.mono fun b ⟨h0, h1, h2, h3⟩ => ⟨h0, h1, h3, h2⟩) hk h1 h2 hown hg hv).symm
/-- A row that is older than both rows. -/
theorem Two.old {S : Nat → Prop} {w : World} {e : TypeId} {size base nv nu : Nat} {v u : Value} {gv gu : G} {xs ys : List Value} (ht : Two S e size w base v u nv nu gv gu xs ys) {w0 : World} (hS : ∀ b, S b → b < w0.heap.size) (hb : Below w0.heap.size w0 w) (hB : w0.heap.size ≤ base) {A : Option Addr} {n : Nat} {g : G} (h : GRow w0 S A n g) : GRow w (Free S base w v u) A n g :=
  h.keep (fun b hb' => ⟨Or.inl hb', Nat.lt_of_lt_of_le (hS b hb') hb.size, fun e => by have := (ht.ownv.lt b e.symm).1; have h2 : b < w0.heap.size := hS b hb'; omega, fun e => by have := (ht.ownu.lt b e.symm).1; have h2 : b < w0.heap.size := hS b hb'; omega⟩) fun p hp => hb.cell (hS _ hp)
/-- A block that is none of both rows' stays. -/
theorem Two.apartv {S : Nat → Prop} {w : World} {e : TypeId} {size base nv nu : Nat} {v u : Value} {gv gu : G} {xs ys : List Value} (ht : Two S e size w base v u nv nu gv gu xs ys) {z : Nat} (hz : w.heap.size ≤ z) : some z ≠ v.ownBlock := fun e => by have := (ht.ownv.lt z e.symm).2; omega
theorem Two.apartu {S : Nat → Prop} {w : World} {e : TypeId} {size base nv nu : Nat} {v u : Value} {gv gu : G} {xs ys : List Value} (ht : Two S e size w base v u nv nu gv gu xs ys) {z : Nat} (hz : w.heap.size ≤ z) : some z ≠ u.ownBlock := fun e => by have := (ht.ownu.lt z e.symm).2; omega

/-- What build's loop holds to. -/
structure Split (S : Nat → Prop) (t : T) (rows l' ys ns : List R) (A : Option Addr) (n j : Nat) (w W1 wr : World) (v u : Value) (xs zs : List Value) : Prop where
  le : j ≤ n
  yes : yesR t rows = ys ++ yesR t l'
  no : noR t rows = ns ++ noR t l'
  few : ∀ x ∈ l', x.2.length ≤ 1000 ∧ ∀ y ∈ x.2, y.path.length ≤ 1000
  rest : RRest w S A n j l'
  two : Two S 126 2 wr W1.heap.size v u ys.length ns.length (encRs ys) (encRs ns) xs zs
  ylen : ys.length ≤ j
  nlen : ns.length ≤ j
  below : Below W1.heap.size W1 wr
theorem own2 {w : World} {z : Nat} {e : TypeId} {a b : Value} (h : w.heap[z]? = some (.cells #[a, b] e (0, 0))) : w.cell? ⟨z, 0, none⟩ = some a ∧ w.cell? ⟨z, 1, none⟩ = some b := by
  simp [World.cell?, h]
/-- Two rows of the call's own, and a box (two cells) beside them. -/
structure Duo (S : Nat → Prop) (W1 : World) (z : Nat) (p q : Value) (W : World) (v u : Value) (ys ns : List R) (xs zs : List Value) : Prop where
  two : Two S 126 2 W W1.heap.size v u ys.length ns.length (encRs ys) (encRs ns) xs zs
  below : Below W1.heap.size W1 W
  box : W.heap[z]? = some (.cells #[p, q] 126 (0, 0))
  nv : some z ≠ v.ownBlock
  nu : some z ≠ u.ownBlock
theorem Duo.old {S : Nat → Prop} {w W1 W : World} {z : Nat} {p q v u : Value} {ys ns : List R} {xs zs : List Value} (h : Duo S W1 z p q W v u ys ns xs zs) (hS : ∀ b, S b → b < w.heap.size) (hb : Below w.heap.size w W1) {A : Option Addr} {n : Nat} {g : G} (hg : GRow w S A n g) : GRow W (Free S W1.heap.size W v u) A n g :=
  h.two.old hS (hb.trans (h.below.mono hb.size)) hb.size hg
theorem Duo.kept {S : Nat → Prop} {W1 W W' : World} {z : Nat} {p q v u : Value} {ys ns : List R} {xs zs : List Value} (h : Duo S W1 z p q W v u ys ns xs zs) (hb : Below W.heap.size W W') : Duo S W1 z p q W' v u ys ns xs zs :=
  ⟨h.two.kept hb, h.below.trans (hb.mono h.below.size), (hb.block z (Array.getElem?_eq_some_iff.1 h.box).1).trans h.box, h.nv, h.nu⟩
theorem Duo.alloc {S : Nat → Prop} {W1 W : World} {z : Nat} {p q v u : Value} {ys ns : List R} {xs zs : List Value} (h : Duo S W1 z p q W v u ys ns xs zs) (o : Obj) : Duo S W1 z p q (W.alloc o) v u ys ns xs zs := h.kept ((Below.refl _ _).alloc (Nat.le_refl _) o)
theorem Duo.drew {S : Nat → Prop} {W1 W : World} {z : Nat} {p q v u : Value} {ys ns : List R} {xs zs : List Value} (h : Duo S W1 z p q W v u ys ns xs zs) : Duo S W1 z p q W.drew v u ys ns xs zs := h.kept (Below.refl _ _).drew
theorem Duo.cells {S : Nat → Prop} {W1 W : World} {z : Nat} {p q v u : Value} {ys ns : List R} {xs zs : List Value} (h : Duo S W1 z p q W v u ys ns xs zs) : W.cell? ⟨z, 0, none⟩ = some p ∧ W.cell? ⟨z, 1, none⟩ = some q := own2 h.box
theorem Duo.symm {S : Nat → Prop} {W1 W : World} {z : Nat} {p q v u : Value} {ys ns : List R} {xs zs : List Value} (h : Duo S W1 z p q W v u ys ns xs zs) : Duo S W1 z p q W u v ns ys zs xs := ⟨h.two.symm, h.below, h.box, h.nu, h.nv⟩
theorem Duo.put {S : Nat → Prop} {W1 W w' : World} {z : Nat} {p q v v' u : Value} {ys ns : List R} {xs zs : List Value} (h : Duo S W1 z p q W v u ys ns xs zs) {x : R} {B : Option Addr} {rc k : Nat}
    (hrow : GRow W (Free S W1.heap.size W v u) B x.2.length (encTs x.2)) (hk : k = x.2.length) (h1 : k ≤ rc) (h2 : rc ≤ maxLen)
    (hown : w'.ownsRow W1.heap.size 126 2 v' (ys.length + 1) (xs ++ [.int .i64 (x.1 : Int), .slice B k rc])) (hg : W.grownBy w' v.ownBlock) (hv : v'.ownBlock = v.ownBlock ∨ v'.ownBlock = some W.heap.size) : Duo S W1 z p q w' v' u (ys ++ [x]) ns (xs ++ [.int .i64 (x.1 : Int), .slice B k rc]) zs := by
  have hz : z < W.heap.size := (Array.getElem?_eq_some_iff.1 h.box).1
  refine ⟨h.two.put hrow hk h1 h2 hown hg hv, h.below.grown hg h.below.size (fun b hb => (h.two.ownv.lt b hb).1), (hg.block z hz h.nv).trans h.box, ?_, h.nu⟩
  rcases hv with e | e
  · rw [e]; exact h.nv
  · rw [e]; intro e'; injection e' with e'; omega
theorem Duo.putr {S : Nat → Prop} {W1 W w' : World} {z : Nat} {p q v u u' : Value} {ys ns : List R} {xs zs : List Value} (h : Duo S W1 z p q W v u ys ns xs zs) {x : R} {B : Option Addr} {rc k : Nat}
    (hrow : GRow W (Free S W1.heap.size W v u) B x.2.length (encTs x.2)) (hk : k = x.2.length) (h1 : k ≤ rc) (h2 : rc ≤ maxLen)
    (hown : w'.ownsRow W1.heap.size 126 2 u' (ns.length + 1) (zs ++ [.int .i64 (x.1 : Int), .slice B k rc])) (hg : W.grownBy w' u.ownBlock) (hv : u'.ownBlock = u.ownBlock ∨ u'.ownBlock = some W.heap.size) : Duo S W1 z p q w' v u' ys (ns ++ [x]) xs (zs ++ [.int .i64 (x.1 : Int), .slice B k rc]) :=
  (h.symm.put (hrow.mono fun b ⟨h0, h1, h2, h3⟩ => ⟨h0, h1, h3, h2⟩) hk h1 h2 hown hg hv).symm
/-- A block that is just made is none of both rows'. -/
theorem Duo.far {S : Nat → Prop} {W1 W : World} {z : Nat} {p q v u : Value} {ys ns : List R} {xs zs : List Value} (h : Duo S W1 z p q W v u ys ns xs zs) {b : Nat} (hb : W.heap.size ≤ b) : some b ≠ v.ownBlock ∧ some b ≠ u.ownBlock := ⟨h.two.apartv hb, h.two.apartu hb⟩
theorem erase_split {α : Type} (l : List α) (k : Nat) (hk : k < l.length) : ∃ l1 x l2, l = l1 ++ x :: l2 ∧ l1.length = k ∧ l.eraseIdx k = l1 ++ l2 := by
  refine ⟨l.take k, l[k], l.drop (k + 1), ?_, by simp; omega, List.eraseIdx_eq_take_drop_succ l k⟩
  rw [← List.drop_eq_getElem_cons hk, List.take_append_drop]
/-- slices.Delete of the k-th test. -/
theorem delete_at (ts : List T) (k kx dl : Nat) (hk : k < ts.length) (hkx : kx = ts.length) (hdl : dl = (ts.eraseIdx k).length) (hn : ts.length ≤ 100000) (S : Nat → Prop) (g c base : Nat) (w : World) (xs : List Value)
    (hrow : w.ownsRow base 56 5 (.slice (some ⟨g, 0, none⟩) kx c) kx xs) (hfc : GCells w S (encTs ts) xs) (hS : ∀ b, S b → b < w.heap.size ∧ b ≠ g) :
    Calls Tryz.prog 81 #[.slice (some ⟨g, 0, none⟩) kx c, .int .i64 (k : Int), .int .i64 ((k : Int) + 1)] w fun e w' =>
      e = .returned (.slice (some ⟨g, 0, none⟩) dl c) ∧ GRow w' (fun b => S b ∨ b = g) (some ⟨g, 0, none⟩) dl (encTs (ts.eraseIdx k)) ∧ w.grownBy w' (some g) ∧ dl ≤ c ∧ c ≤ maxLen := by
  obtain ⟨l1, x, l2, e1, e2, e3⟩ := erase_split ts k hk
  have hlc : kx ≤ c ∧ c ≤ maxLen := by
    obtain ⟨A, c', e, h1, h2, _⟩ := CellsAt.of_own hrow
    injection e with e1 e2 e3
    subst e3
    exact ⟨h1, h2⟩
  have hd : dl ≤ kx := by rw [hdl, hkx]; exact List.length_eraseIdx_le _ _
  rw [e3] at hdl ⊢
  subst e1 e2 hkx hdl
  have h := delete_says l1 l2 x g c base w S hS xs hrow hfc hn
  refine h.mono ?_
  rintro e w' ⟨h1, ⟨zs, hz, hc⟩, h3⟩
  exact ⟨h1, fun _ => ⟨g, 0, zs, rfl, Or.inr rfl, hz.mono fun b hb => Or.inl hb, hc⟩, h3, Nat.le_trans hd hlc.1, hlc.2⟩
theorem step_store_mid {P : Program} {ops : Array Oper} {op : Oper} {a : Act} {w : World} {K : Act → World → Prop} {Q : Exit → Act → World → Prop} {E : Prop} (hgd : op.guard = none) (ty : TypeId) (x y : Operand) (ho : op.op = .store ty x y)
    (b o : Nat) (cells : Array Value) (hx : a.eval x = .pointer (some ⟨b, o, none⟩)) (hy : a.eval y = .agg cells)
    (ht : w.there b o cells.size) (hi : (P.info? ty).map (·.size) = some cells.size) (h1 : cells.all (·.oneCell') = true)
    (h : K (a.put op.dst undef) (w.setCells b o cells.toList)) : if Region.wanted op (yielded ops a.tmps) = true then Oper.wp P op a w K Q else E := by
  have hw : Region.wanted op (yielded ops a.tmps) = true := by simp [Region.wanted, hgd]
  rw [if_pos hw]
  exact wp_store_mid ty x y ho b o cells hx hy ht hi h1 h
theorem info_tree : (Tryz.prog.info? 59).map (·.size) = some 9 := by kernel_rfl
/-- A row of one tree, in a block of its own. -/
theorem tree_row {W wE : World} {S F : Nat → Prop} {tr : Tr} {xs : List Value} {z : Nat} {e : TypeId} (h : GCells W S (encTr tr .nil) xs) (hF : ∀ b, S b → F b) (hk : ∀ b, S b → wE.heap[b]? = W.heap[b]?) (hz : wE.heap[z]? = some (.cells xs.toArray e (0, 0))) (hzF : F z) : GRow wE F (some ⟨z, 0, none⟩) 1 (encTr tr .nil) := fun _ =>
  ⟨z, 0, xs, rfl, hzF, h.keep hF fun p hp => World.cell?_of_block (hk _ hp), fun i u hu => by
    have := World.news_of_block hz i u (by simpa using hu)
    rwa [add_at] at this⟩
theorem there_of {w : World} {z : Nat} {cur : Array Value} {e : TypeId} (h : w.heap[z]? = some (.cells cur e (0, 0))) : w.there z 0 cur.size := fun j hj => by
  simp [World.cell?, World.frozen?, h, Array.getElem?_eq_getElem hj]
theorem five {w : World} {z : Nat} {e : TypeId} {a b c d f : Value} (h : w.heap[z]? = some (.cells #[a, b, c, d, f] e (0, 0))) : w.cell? ⟨z, 0, none⟩ = some a ∧ w.cell? ⟨z, 1, none⟩ = some b ∧ w.cell? ⟨z, 2, none⟩ = some c ∧ w.cell? ⟨z, 3, none⟩ = some d ∧ w.cell? ⟨z, 4, none⟩ = some f := by
  simp [World.cell?, h]
theorem nine {w : World} {z : Nat} {l : List Value} (h : w.rangeAt z 0 l) (hl : l.length = 9) : ∀ i (hi : i < 9), w.cell? ⟨z, i, none⟩ = some (l[i]'(by omega)) := fun i hi => by
  have := h i (l[i]'(by omega)) (by simp)
  rwa [Nat.zero_add] at this
/-- The world w, but block z is filled anew. -/
structure Filled (z : Nat) (e : TypeId) (vs : Array Value) (w w' : World) : Prop where
  own : w'.heap[z]? = some (.cells vs e (0, 0))
  rest : ∀ k, k < w.heap.size → k ≠ z → w'.heap[k]? = w.heap[k]?
  size : w.heap.size ≤ w'.heap.size
  below : Below z w w'
theorem chain_size (w : World) (z : Nat) (v0 v1 v2 v3 v4 v5 v6 v7 v8 : Value) : (((((((((w.setCell ⟨z, 0, none⟩ v0).setCell ⟨z, 1, none⟩ v1).setCell ⟨z, 2, none⟩ v2).setCell ⟨z, 3, none⟩ v3).setCell ⟨z, 4, none⟩ v4).setCell ⟨z, 5, none⟩ v5).setCell ⟨z, 6, none⟩ v6).setCell ⟨z, 7, none⟩ v7).setCell ⟨z, 8, none⟩ v8).heap.size = w.heap.size := by simp [World.setCell]
theorem Filled.base {w : World} {z : Nat} {e : TypeId} {u0 u1 u2 u3 u4 u5 u6 u7 u8 v0 v1 v2 v3 v4 v5 v6 v7 v8 : Value} (h : w.heap[z]? = some (.cells #[u0, u1, u2, u3, u4, u5, u6, u7, u8] e (0, 0))) : Filled z e #[v0, v1, v2, v3, v4, v5, v6, v7, v8] w (((((((((w.setCell ⟨z, 0, none⟩ v0).setCell ⟨z, 1, none⟩ v1).setCell ⟨z, 2, none⟩ v2).setCell ⟨z, 3, none⟩ v3).setCell ⟨z, 4, none⟩ v4).setCell ⟨z, 5, none⟩ v5).setCell ⟨z, 6, none⟩ v6).setCell ⟨z, 7, none⟩ v7).setCell ⟨z, 8, none⟩ v8) := by
  have hs : ∀ (W : World) (i : Nat) (v : Value) (hb : Below z w W), Below z w (W.setCell ⟨z, i, none⟩ v) := fun W i v hb => hb.setCell (p := ⟨z, i, none⟩) (Nat.le_refl _) v
  refine ⟨?_, fun k _ hk => ?_, Nat.le_of_eq (chain_size w z v0 v1 v2 v3 v4 v5 v6 v7 v8).symm, hs _ _ _ (hs _ _ _ (hs _ _ _ (hs _ _ _ (hs _ _ _ (hs _ _ _ (hs _ _ _ (hs _ _ _ (hs _ _ _ (Below.refl _ _)))))))))⟩
  · simp [World.setCell, Array.getElem?_modify, h]
  · have h : ∀ (W : World) (i : Nat) (v : Value), (W.setCell ⟨z, i, none⟩ v).heap[k]? = W.heap[k]? := fun W i v => Below.heap_setCell W ⟨z, i, none⟩ v k hk
    rw [h, h, h, h, h, h, h, h, h]
theorem Filled.alloc {z : Nat} {e : TypeId} {vs : Array Value} {w w' : World} (h : Filled z e vs w w') (hz : z < w.heap.size) (o : Obj) : Filled z e vs w (w'.alloc o) :=
  ⟨(heap_alloc_old w' o (Nat.lt_of_lt_of_le hz h.size)).trans h.own, fun k hk hne => (heap_alloc_old w' o (Nat.lt_of_lt_of_le hk h.size)).trans (h.rest k hk hne), Nat.le_trans h.size (by simp), h.below.alloc (Nat.le_of_lt (Nat.lt_of_lt_of_le hz h.size)) o⟩
theorem tree_end {S : Nat → Prop} {w wE wF : World} {t : T} {y n : Tr} {Rp : Option Addr} {pl cp z1 z2 : Nat} {S1 S2 : Nat → Prop} {W1 W2 : World} {xs ys : List Value} {e1 e2 : TypeId} (hS : ∀ b, S b → b < w.heap.size) (hb : Below w.heap.size w wE)
    (hF : Filled w.heap.size 59 #[.bool false, .int .i64 0, .slice Rp pl cp, .int .i64 t.k, .int .i64 t.n, .string t.t, .slice none 0 0, .slice (some ⟨z1, 0, none⟩) 1 1, .slice (some ⟨z2, 0, none⟩) 1 1] wE wF)
    (hRP : GRow w S Rp t.path.length (encI t.path)) (hpl : pl = t.path.length) (hp : pl ≤ cp) (hcp : cp ≤ maxLen)
    (hy : GCells W1 S1 (encTr y .nil) xs) (hn : GCells W2 S2 (encTr n .nil) ys)
    (hS1 : ∀ b, S1 b → (S b ∨ w.heap.size + 1 ≤ b) ∧ b < W1.heap.size) (hS2 : ∀ b, S2 b → (S b ∨ w.heap.size + 1 ≤ b) ∧ b < W2.heap.size) (h1 : Below W1.heap.size W1 wE) (h2 : Below W2.heap.size W2 wE)
    (hz1 : wF.heap[z1]? = some (.cells xs.toArray e1 (0, 0))) (hz2 : wF.heap[z2]? = some (.cells ys.toArray e2 (0, 0))) (hl1 : w.heap.size ≤ z1) (hl2 : w.heap.size ≤ z2) :
    wF.rangeAt w.heap.size 0 [.bool false, .int .i64 0, .slice Rp pl cp, .int .i64 t.k, .int .i64 t.n, .string t.t, .slice none 0 0, .slice (some ⟨z1, 0, none⟩) 1 1, .slice (some ⟨z2, 0, none⟩) 1 1] ∧
    TreeEnds S (.ask t y n) w (.returned (.agg #[.bool false, .int .i64 0, .slice Rp pl cp, .int .i64 t.k, .int .i64 t.n, .string t.t, .slice none 0 0, .slice (some ⟨z1, 0, none⟩) 1 1, .slice (some ⟨z2, 0, none⟩) 1 1])) wF := by
  subst hpl
  have hFb : Below w.heap.size w wF := hb.trans hF.below
  have hne : ∀ b, (S b ∨ w.heap.size + 1 ≤ b) → b ≠ w.heap.size := fun b h => by
    rcases h with h | h
    · have := hS b h
      omega
    · omega
  have hg1 := tree_row (F := fun b => S b ∨ (w.heap.size ≤ b ∧ b < wF.heap.size)) hy (fun b h => by
    obtain ⟨h3, h4⟩ := hS1 b h
    exact h3.imp_right fun h5 => ⟨by omega, Nat.lt_of_lt_of_le h4 (Nat.le_trans h1.size hF.size)⟩) (fun b h => by
    obtain ⟨h3, h4⟩ := hS1 b h
    exact (hF.rest b (Nat.lt_of_lt_of_le h4 h1.size) (hne b h3)).trans (h1.block b h4)) hz1 (Or.inr ⟨hl1, (Array.getElem?_eq_some_iff.1 hz1).1⟩)
  have hg2 := tree_row (F := fun b => S b ∨ (w.heap.size ≤ b ∧ b < wF.heap.size)) hn (fun b h => by
    obtain ⟨h3, h4⟩ := hS2 b h
    exact h3.imp_right fun h5 => ⟨by omega, Nat.lt_of_lt_of_le h4 (Nat.le_trans h2.size hF.size)⟩) (fun b h => by
    obtain ⟨h3, h4⟩ := hS2 b h
    exact (hF.rest b (Nat.lt_of_lt_of_le h4 h2.size) (hne b h3)).trans (h2.block b h4)) hz2 (Or.inr ⟨hl2, (Array.getElem?_eq_some_iff.1 hz2).1⟩)
  refine ⟨fun i u hu => ?_, _, rfl, ?_, hFb⟩
  · have := World.news_of_block hF.own i u hu
    rwa [add_at] at this
  · refine ⟨_, rfl, rfl, _, rfl, rfl, Rp, cp, _, rfl, hp, hcp, ?_, _, rfl, rfl, _, rfl, rfl, _, rfl, rfl, _, rfl, rfl, _, 1, _, rfl, Nat.le_refl _, by decide, hg1, _, 1, _, rfl, Nat.le_refl _, by decide, hg2, rfl⟩
    exact hRP.keep (fun b h => Or.inl h) fun p hp => hFb.cell (hS _ hp)
theorem far1 {w : World} {k : Nat} (hk : k < w.heap.size) (o : Obj) : (w.alloc o).heap[k]? = w.heap[k]? := heap_alloc_old w o hk
theorem far2 {w : World} {k : Nat} (hk : k < w.heap.size) (o o' : Obj) : ((w.alloc o).alloc o').heap[k]? = w.heap[k]? := (heap_alloc_old _ o' (by simp; omega)).trans (heap_alloc_old w o hk)
theorem far3 {w : World} {z : Nat} {v0 v1 v2 v3 v4 v5 v6 v7 v8 : Value} (hk : z + 1 < w.heap.size) (o : Obj) : ((((((((((w.setCell ⟨z, 0, none⟩ v0).setCell ⟨z, 1, none⟩ v1).setCell ⟨z, 2, none⟩ v2).setCell ⟨z, 3, none⟩ v3).setCell ⟨z, 4, none⟩ v4).setCell ⟨z, 5, none⟩ v5).setCell ⟨z, 6, none⟩ v6).setCell ⟨z, 7, none⟩ v7).setCell ⟨z, 8, none⟩ v8).alloc o).heap[z + 1]? = w.heap[z + 1]? := by
  have h : ∀ (W : World) (i : Nat) (v : Value), (W.setCell ⟨z, i, none⟩ v).heap[z + 1]? = W.heap[z + 1]? := fun W i v => Below.heap_setCell W ⟨z, i, none⟩ v (z + 1) (Nat.succ_ne_self _)
  rw [heap_alloc_old _ _ (by rw [chain_size]; exact hk), h, h, h, h, h, h, h, h, h]
theorem far4 {w : World} {z : Nat} {v0 v1 v2 v3 v4 v5 v6 v7 v8 : Value} (hk : z + 1 < w.heap.size) (o o' : Obj) : (((((((((((w.setCell ⟨z, 0, none⟩ v0).setCell ⟨z, 1, none⟩ v1).setCell ⟨z, 2, none⟩ v2).setCell ⟨z, 3, none⟩ v3).setCell ⟨z, 4, none⟩ v4).setCell ⟨z, 5, none⟩ v5).setCell ⟨z, 6, none⟩ v6).setCell ⟨z, 7, none⟩ v7).setCell ⟨z, 8, none⟩ v8).alloc o).alloc o').heap[z + 1]? = w.heap[z + 1]? :=
  (heap_alloc_old _ o' (by simp [World.setCell]; omega)).trans (far3 hk o)
theorem new1 (w : World) (z : Nat) (v0 v1 v2 v3 v4 v5 v6 v7 v8 : Value) (o : Obj) : ((((((((((w.setCell ⟨z, 0, none⟩ v0).setCell ⟨z, 1, none⟩ v1).setCell ⟨z, 2, none⟩ v2).setCell ⟨z, 3, none⟩ v3).setCell ⟨z, 4, none⟩ v4).setCell ⟨z, 5, none⟩ v5).setCell ⟨z, 6, none⟩ v6).setCell ⟨z, 7, none⟩ v7).setCell ⟨z, 8, none⟩ v8).alloc o).heap[w.heap.size]? = some o := by
  have h := heap_alloc_new (((((((((w.setCell ⟨z, 0, none⟩ v0).setCell ⟨z, 1, none⟩ v1).setCell ⟨z, 2, none⟩ v2).setCell ⟨z, 3, none⟩ v3).setCell ⟨z, 4, none⟩ v4).setCell ⟨z, 5, none⟩ v5).setCell ⟨z, 6, none⟩ v6).setCell ⟨z, 7, none⟩ v7).setCell ⟨z, 8, none⟩ v8) o
  rwa [chain_size] at h
theorem new2 (w : World) (z : Nat) (v0 v1 v2 v3 v4 v5 v6 v7 v8 : Value) (o o' : Obj) : (((((((((((w.setCell ⟨z, 0, none⟩ v0).setCell ⟨z, 1, none⟩ v1).setCell ⟨z, 2, none⟩ v2).setCell ⟨z, 3, none⟩ v3).setCell ⟨z, 4, none⟩ v4).setCell ⟨z, 5, none⟩ v5).setCell ⟨z, 6, none⟩ v6).setCell ⟨z, 7, none⟩ v7).setCell ⟨z, 8, none⟩ v8).alloc o).alloc o').heap[w.heap.size]? = some o ∧ (((((((((((w.setCell ⟨z, 0, none⟩ v0).setCell ⟨z, 1, none⟩ v1).setCell ⟨z, 2, none⟩ v2).setCell ⟨z, 3, none⟩ v3).setCell ⟨z, 4, none⟩ v4).setCell ⟨z, 5, none⟩ v5).setCell ⟨z, 6, none⟩ v6).setCell ⟨z, 7, none⟩ v7).setCell ⟨z, 8, none⟩ v8).alloc o).alloc o').heap[w.heap.size + 1]? = some o' := by
  have e : ((((((((((w.setCell ⟨z, 0, none⟩ v0).setCell ⟨z, 1, none⟩ v1).setCell ⟨z, 2, none⟩ v2).setCell ⟨z, 3, none⟩ v3).setCell ⟨z, 4, none⟩ v4).setCell ⟨z, 5, none⟩ v5).setCell ⟨z, 6, none⟩ v6).setCell ⟨z, 7, none⟩ v7).setCell ⟨z, 8, none⟩ v8).alloc o).heap.size = w.heap.size + 1 := by simp [World.setCell]
  have h := heap_alloc_new ((((((((((w.setCell ⟨z, 0, none⟩ v0).setCell ⟨z, 1, none⟩ v1).setCell ⟨z, 2, none⟩ v2).setCell ⟨z, 3, none⟩ v3).setCell ⟨z, 4, none⟩ v4).setCell ⟨z, 5, none⟩ v5).setCell ⟨z, 6, none⟩ v6).setCell ⟨z, 7, none⟩ v7).setCell ⟨z, 8, none⟩ v8).alloc o) o'
  rw [e] at h
  exact ⟨(heap_alloc_old _ o' (by rw [e]; omega)).trans (new1 w z v0 v1 v2 v3 v4 v5 v6 v7 v8 o), h⟩
theorem own_nine {w : World} {z : Nat} {e : TypeId} {v0 v1 v2 v3 v4 v5 v6 v7 v8 : Value} (h : w.heap[z]? = some (.cells #[v0, v1, v2, v3, v4, v5, v6, v7, v8] e (0, 0))) :
    (w.cell? ⟨z, 0, none⟩ = some v0 ∧ w.cell? ⟨z, 1, none⟩ = some v1 ∧ w.cell? ⟨z, 2, none⟩ = some v2 ∧ w.cell? ⟨z, 3, none⟩ = some v3 ∧ w.cell? ⟨z, 4, none⟩ = some v4 ∧ w.cell? ⟨z, 5, none⟩ = some v5 ∧ w.cell? ⟨z, 6, none⟩ = some v6 ∧ w.cell? ⟨z, 7, none⟩ = some v7 ∧ w.cell? ⟨z, 8, none⟩ = some v8) ∧
    (w.frozen? ⟨z, 0, none⟩ = false ∧ w.frozen? ⟨z, 1, none⟩ = false ∧ w.frozen? ⟨z, 2, none⟩ = false ∧ w.frozen? ⟨z, 3, none⟩ = false ∧ w.frozen? ⟨z, 4, none⟩ = false ∧ w.frozen? ⟨z, 5, none⟩ = false ∧ w.frozen? ⟨z, 6, none⟩ = false ∧ w.frozen? ⟨z, 7, none⟩ = false ∧ w.frozen? ⟨z, 8, none⟩ = false) := by
  simp [World.cell?, World.frozen?, h]
theorem alloc_cell {w : World} {z : Nat} (hz : z < w.heap.size) : (∀ (o : Obj) (i : Nat), (w.alloc o).cell? ⟨z, i, none⟩ = w.cell? ⟨z, i, none⟩) ∧ (∀ (o : Obj) (i : Nat), (w.alloc o).frozen? ⟨z, i, none⟩ = w.frozen? ⟨z, i, none⟩) := by
  refine ⟨fun o i => World.cell?_alloc_lt w o _ hz, fun o i => ?_⟩
  have h := heap_alloc_old w o hz
  simp only [World.frozen?, h]
theorem alloc_cell2 {w : World} {z : Nat} (hz : z < w.heap.size) : (∀ (o o' : Obj) (i : Nat), ((w.alloc o).alloc o').cell? ⟨z, i, none⟩ = w.cell? ⟨z, i, none⟩) ∧ (∀ (o o' : Obj) (i : Nat), ((w.alloc o).alloc o').frozen? ⟨z, i, none⟩ = w.frozen? ⟨z, i, none⟩) := by
  have h := alloc_cell hz
  refine ⟨fun o o' i => ?_, fun o o' i => ?_⟩
  · rw [(alloc_cell (w := w.alloc o) (by simp; omega)).1, h.1]
  · rw [(alloc_cell (w := w.alloc o) (by simp; omega)).2, h.2]
end Go.Proofs.YtiinghgfojicdaaGreat
