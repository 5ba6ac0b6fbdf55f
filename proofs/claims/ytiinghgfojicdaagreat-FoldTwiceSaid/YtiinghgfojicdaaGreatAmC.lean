/- The abstract machine's operations do what the model's do: slices, maps, builtins. For every program, tape and world. -/
import Derived.Test.YtiinghgfojicdaaGreatAmB
import Derived.Laws.Tables
import Derived.Laws.MakeOwn
set_option linter.unusedVariables false
set_option linter.unusedSimpArgs false
/- build, make. -/
namespace Go.AM
open Go
variable {P : Program} {φ : Phi} {B : Tree ABlk} {H H' : Heap} {w : World} {bd : Nat}

theorem fold_size (off : Nat) : ∀ (vs : List Value) (i : Nat) (cs : Array Value), ((vs.zipIdx i).foldl (fun (cs : Array Value) (p : Value × Nat) => cs.setIfInBounds (off + p.2) p.1) cs).size = cs.size
  | [], _, _ => rfl
  | v :: vs, i, cs => by simp only [List.zipIdx_cons, List.foldl_cons]; rw [fold_size off vs]; simp

theorem fold_get (off : Nat) : ∀ (vs : List Value) (i : Nat) (cs : Array Value) (j : Nat), off + i + vs.length ≤ cs.size →
    ((vs.zipIdx i).foldl (fun (cs : Array Value) (p : Value × Nat) => cs.setIfInBounds (off + p.2) p.1) cs)[j]? = if off + i ≤ j ∧ j < off + i + vs.length then vs[j - (off + i)]? else cs[j]?
  | [], i, cs, j, _ => by rw [if_neg (by simp only [List.length_nil]; omega)]; rfl
  | v :: vs, i, cs, j, h => by
    simp only [List.length_cons] at h
    simp only [List.zipIdx_cons, List.foldl_cons]
    rw [fold_get off vs (i + 1) _ j (by simp; omega)]
    by_cases h1 : off + (i + 1) ≤ j ∧ j < off + (i + 1) + vs.length
    · rw [if_pos h1, if_pos (by simp only [List.length_cons]; omega)]
      have : j - (off + i) = (j - (off + (i + 1))) + 1 := by omega
      rw [this, List.getElem?_cons_succ]
    · rw [if_neg h1]
      by_cases h2 : j = off + i
      · subst h2
        rw [if_pos (by simp only [List.length_cons]; omega)]
        simp only [Nat.sub_self, List.getElem?_cons_zero]
        rw [Array.getElem?_setIfInBounds_self]
        rw [if_pos (by omega)]
      · rw [if_neg (by simp only [List.length_cons]; omega)]
        rw [Array.getElem?_setIfInBounds_ne (fun e => h2 e.symm)]

theorem splice_rvs {vs cs : List AV} {us : Array Value} {ws : Array Value} (hv : RVs φ vs ws.toList) (hc : RVs φ cs us.toList) {off : Nat} (hle : off + vs.length ≤ cs.length) :
    RVs φ (splice vs off cs) (ws.zipIdx.foldl (fun (cs : Array Value) (p : Value × Nat) => cs.setIfInBounds (off + p.2) p.1) us).toList := by
  have e : ws.zipIdx.foldl (fun (cs : Array Value) (p : Value × Nat) => cs.setIfInBounds (off + p.2) p.1) us = (ws.toList.zipIdx 0).foldl (fun (cs : Array Value) (p : Value × Nat) => cs.setIfInBounds (off + p.2) p.1) us := by
    rw [← Array.foldl_toList]; simp
  rw [e]
  have hl1 := RVs.length hv
  have hl2 := RVs.length hc
  have hus : us.size = cs.length := by rw [← hl2]; simp
  refine RVs.of_get ?_ fun j x u hx hu => ?_
  · rw [splice_length _ _ _ hle]
    simp only [Array.length_toList, fold_size, hus]
  · rw [splice_get _ _ _ _ hle] at hx
    rw [Array.getElem?_toList, fold_get _ _ _ _ _ (by rw [hl1, hus]; omega), Nat.add_zero, hl1] at hu
    by_cases hin : off ≤ j ∧ j < off + vs.length
    · rw [if_pos hin] at hx hu
      obtain ⟨u', h1, h2⟩ := RVs.get _ hv hx
      rw [hu] at h1
      obtain rfl := Option.some.inj h1
      exact h2
    · rw [if_neg hin] at hx hu
      obtain ⟨u', h1, h2⟩ := RVs.get _ hc hx
      rw [Array.getElem?_toList, hu] at h1
      obtain rfl := Option.some.inj h1
      exact h2

theorem splice_cells {vs : List AV} (hv : ∀ c ∈ vs, c.isCell = true) : ∀ (off : Nat) (cs : List AV), (∀ c ∈ cs, c.isCell = true) → ∀ c ∈ splice vs off cs, c.isCell = true
  | 0, cs, hc, c, h => by
    simp only [splice, List.mem_append] at h
    exact h.elim (hv c) (fun h => hc c (List.mem_of_mem_drop h))
  | off + 1, [], _, c, h => by simp [splice] at h
  | off + 1, x :: cs, hc, c, h => by
    simp only [splice, List.mem_cons] at h
    rcases h with rfl | h
    · exact hc _ (by simp)
    · exact splice_cells hv off cs (fun c hc' => hc c (by simp [hc'])) c h

theorem fill_of {ρA : Operand → AV} {ρ : Operand → Value} (hρ : ∀ x, RV φ (ρA x) (ρ x)) {pa pl : Nat → Option (Nat × Nat)} (hp : ∀ {i y}, pa i = some y → pl i = some y) : ∀ (parts : List (Nat × Operand)) (cs : List AV) (us : Array Value) (res : List AV),
    RVs φ cs us.toList → (∀ c ∈ cs, c.isCell = true) → fillA pa cs (parts.map fun (i, x) => (i, ρA x)) = some res →
    ∃ us' : Array Value, Instr.fill pl us (parts.map fun (i, x) => (i, ρ x)) = some us' ∧ RVs φ res us'.toList ∧ (∀ c ∈ res, c.isCell = true) ∧ res.length = cs.length
  | [], cs, us, res, hc, hcell, h => by
    simp only [List.map_nil, fillA, Option.some.injEq] at h
    subst h
    exact ⟨us, rfl, hc, hcell, rfl⟩
  | (i, x) :: parts, cs, us, res, hc, hcell, h => by
    simp only [List.map_cons, fillA] at h
    cases hpl : pa i with
    | none => rw [hpl] at h; simp at h
    | some y =>
      obtain ⟨off, size⟩ := y
      rw [hpl] at h
      simp only at h
      cases hb : ((ρA x).stores && Nat.beq (ρA x).cells.length size && Nat.ble (off + size) cs.length) with
      | false => rw [hb] at h; simp at h
      | true =>
        rw [hb] at h
        simp only [Bool.and_eq_true] at hb
        have e1 := Nat.eq_of_beq_eq_true hb.1.2
        have e2 := Nat.le_of_ble_eq_true hb.2
        obtain ⟨hv1, hv2⟩ := RV.stored (hρ x) hb.1.1
        have hl := RVs.length hv1
        have hl2 := RVs.length hc
        have hsz : (ρ x).cells.size = size := by rw [e1] at hl; simpa using hl
        have hus : us.size = cs.length := by rw [← hl2]; simp
        obtain ⟨us', q1, q2, q3, q4⟩ := fill_of hρ hp parts _ _ res (splice_rvs (off := off) hv1 hc (by omega)) (splice_cells hv2 off cs hcell) h
        refine ⟨us', ?_, q2, q3, by rw [q4, splice_length _ _ _ (by omega)]⟩
        simp only [List.map_cons, Instr.fill, hp hpl]
        rw [if_neg]
        · exact q1
        · simp [hsz, hus, e2]

theorem places_of : ∀ (fs : List Field), (fs.all fun f => (sizeOf P f.type).isSome) = true →
    ∃ places : List (Nat × Nat), fs.mapM (fun f => (P.info? f.type).map fun i => (f.offset, i.size)) = some places ∧ ∀ (i : Nat) (f : Field) (n : Nat), fs[i]? = some f → sizeOf P f.type = some n → places[i]? = some (f.offset, n)
  | [], _ => ⟨[], by simp, by simp⟩
  | f :: fs, h => by
    simp only [List.all_cons, Bool.and_eq_true] at h
    obtain ⟨places, p1, p2⟩ := places_of fs h.2
    obtain ⟨n, hn⟩ := Option.isSome_iff_exists.1 h.1
    obtain ⟨i, hi, rfl⟩ := size_of hn
    refine ⟨(f.offset, i.size) :: places, by simp [List.mapM_cons, hi, p1], fun j f' n' hf hs => ?_⟩
    cases j with
    | zero =>
      simp only [List.getElem?_cons_zero, Option.some.injEq] at hf
      subst hf
      rw [hn] at hs
      simp only [Option.some.injEq] at hs
      subst hs
      rfl
    | succ j =>
      simp only [List.getElem?_cons_succ] at hf ⊢
      exact p2 j f' n' hf hs

theorem build_sound (h : Rel φ B H w) {ρA : Operand → AV} {ρ : Operand → Value} (hρ : ∀ x, RV φ (ρA x) (ρ x)) {t : TypeId} {parts : Array (Nat × Operand)} {v : AV}
    (hr : doBuild P t (parts.toList.map fun (i, x) => (i, ρA x)) H = .ok v H') : RanV P (Instr.build t (parts.map fun (i, x) => (i, ρ x))) bd φ B H w v H' := by
  simp only [doBuild] at hr
  cases hz : zeroOf P t with
  | none => rw [hz] at hr; simp at hr
  | some z =>
    rw [hz] at hr
    obtain ⟨u, _, hu, hinfo⟩ := zero_of hz
    have hrv : RV φ z u := by rw [hu]; exact rv_ofValue φ 6 u
    cases hit : P.info? t with
    | none => rw [hit] at hinfo; simp at hinfo
    | some it =>
      rw [hit] at hinfo
      have hinfo : it.zero = some u := hinfo
      cases z <;> try (simp at hr; done)
      case agg zs =>
        simp only [RV] at hrv
        obtain ⟨us, rfl, hus, hcell⟩ := hrv
        simp only at hr
        have fin : ∀ {pa pl : Nat → Option (Nat × Nat)}, (∀ {i y}, pa i = some y → pl i = some y) → retAgg H (fillA pa zs (parts.toList.map fun (i, x) => (i, ρA x))) = .ok v H' →
            (∀ cells, Instr.fill pl us.toArray ((parts.map fun (i, x) => (i, ρ x)).toList) = some cells → P.built t (parts.map fun (i, x) => (i, ρ x)).toList = some cells) → RanV P (Instr.build t (parts.map fun (i, x) => (i, ρ x))) bd φ B H w v H' := by
          intro pa pl hp hr hb
          cases hq : fillA pa zs (parts.toList.map fun (i, x) => (i, ρA x)) with
          | none => rw [hq] at hr; simp [retAgg] at hr
          | some cs =>
            rw [hq] at hr
            simp only [retAgg, R2.ok.injEq] at hr
            obtain ⟨rfl, rfl⟩ := hr
            obtain ⟨us', q1, q2, q3, _⟩ := fill_of hρ hp parts.toList zs us.toArray cs (by simpa using hus) hcell hq
            refine RanV.same h (run_build w t _ us' (hb us' (by rw [Array.toList_map]; exact q1))) ?_
            simp only [RV]; exact ⟨us'.toList, by simp, q2, q3⟩
        cases hd : underOf P t with
        | none => rw [hd] at hr; simp at hr
        | some d =>
          rw [hd] at hr
          have hun := under_of hd
          cases d <;> try (simp at hr; done)
          case array n elem =>
            simp only at hr
            cases hs : sizeOf P elem with
            | none => rw [hs] at hr; simp at hr
            | some sz =>
              rw [hs] at hr
              simp only at hr
              obtain ⟨ie, hie, rfl⟩ := size_of hs
              exact fin (fun x => x) hr (fun cells hc => by simp only [Program.built, hit, hun, hinfo, hie]; exact hc)
          case struct fields =>
            simp only at hr
            cases hso : sizesOk P fields with
            | false => rw [hso] at hr; simp at hr
            | true =>
              rw [hso] at hr
              simp only at hr
              obtain ⟨places, p1, p2⟩ := places_of fields.toList hso
              refine fin (pl := fun i => places.toArray[i]?) (fun {i y} hy => ?_) hr (fun cells hc => by simp only [Program.built, hit, hun, hinfo, p1]; exact hc)
              obtain ⟨o, n⟩ := y
              obtain ⟨f, f1, rfl, f3⟩ := fieldSpot_of hy
              simpa using p2 i f n (by simpa using f1) f3

theorem madeCells_list (z : Array Value) (n sz : Nat) (h : z.size = sz) : ((Array.range (n * sz)).map (z[· % z.size]!)).toList = (List.replicate n z.toList).flatten := by
  subst h; exact zeroCells_list z n

theorem made_of {z : AV} {u : Value} (hz : RV φ z u) (hs : z.stores = true) {sz : Nat} (hl : z.cells.length = sz) (n : Nat) :
    RVs φ (repZero z.cells n) ((Array.range (n * sz)).map (u.cells[· % u.cells.size]!)).toList ∧ (∀ c ∈ repZero z.cells n, c.isCell = true) ∧ u.cells.size = sz := by
  obtain ⟨hv1, hv2⟩ := RV.stored hz hs
  have hl1 := RVs.length hv1
  have hsz : u.cells.size = sz := by rw [hl] at hl1; simpa using hl1
  rw [madeCells_list _ n sz hsz]
  exact ⟨rvs_rep hv1 n, rep_cells hv2 n, hsz⟩

theorem buildSlice_sound (h : Rel φ B H w) (hbd : bd ≤ w.heap.size) {ρA : Operand → AV} {ρ : Operand → Value} (hρ : ∀ x, RV φ (ρA x) (ρ x)) {t : TypeId} {len : Nat} {parts : Array (Nat × Operand)} {v : AV}
    (hr : doBuildSlice P t len (parts.toList.map fun (i, x) => (i, ρA x)) H = .ok v H') : RanV P (Instr.buildSlice t len (parts.map fun (i, x) => (i, ρ x))) bd φ B H w v H' := by
  simp only [doBuildSlice] at hr
  cases hd : underOf P t with
  | none => rw [hd] at hr; simp at hr
  | some d =>
    rw [hd] at hr
    cases d <;> try (simp at hr; done)
    case slice elem =>
      simp only at hr
      cases hs : sizeOf P elem with
      | none => rw [hs] at hr; simp at hr
      | some sz =>
        cases hz : zeroOf P elem with
        | none => rw [hs, hz] at hr; simp at hr
        | some z =>
          rw [hs, hz] at hr
          simp only at hr
          cases hb : (z.stores && Nat.beq z.cells.length sz && Nat.ble (len * sz) 16777216 && Nat.blt 0 sz) with
          | false => rw [hb] at hr; simp at hr
          | true =>
            rw [hb] at hr
            simp only [Bool.and_eq_true] at hb
            have e1 := Nat.eq_of_beq_eq_true hb.1.1.2
            have e2 := Nat.le_of_ble_eq_true hb.1.2
            have e3 := blt_lt hb.2
            obtain ⟨u, hzr, hu, hinfo⟩ := zero_of hz
            have hrv : RV φ z u := by rw [hu]; exact rv_ofValue φ 6 u
            obtain ⟨m1, m2, m3⟩ := made_of hrv hb.1.1.1 e1 len
            cases hq : fillA (fun i => some (i * sz, sz)) (repZero z.cells len) (parts.toList.map fun (i, x) => (i, ρA x)) with
            | none => rw [hq] at hr; simp [retSlice] at hr
            | some cs =>
              rw [hq] at hr
              simp only [retSlice, R2.ok.injEq] at hr
              obtain ⟨rfl, rfl⟩ := hr
              obtain ⟨us', q1, q2, q3, q4⟩ := fill_of (pl := fun i => some (i * sz, sz)) hρ (fun x => x) parts.toList (repZero z.cells len) _ cs m1 m2 hq
              have hcl : cs.length = len * sz := by rw [q4, rep_length, e1]
              have hul : us'.size = len * sz := by have := RVs.length q2; rw [hcl] at this; simpa using this
              obtain ⟨a, b⟩ := h.newRow q2 q3 false us' elem 0 0 (len * sz) hcl (by omega) (fun j u hu => by simpa using hu) (fun j _ => by omega) (fun _ => ⟨rfl, rfl⟩) (grew_alloc w (.cells us' elem)) bd hbd
              refine ⟨_, .slice (some ⟨w.heap.size, 0, none⟩) len len, w.alloc (.cells us' elem), ?_, ?_, a, b, ?_⟩
              · have hlim : ¬ (len * sz > 2 ^ 24) := by omega
                simp only [Instr.buildSlice, Sem.run_bind, run_underlying_of hd w, Result.andThen_ok, run_sizeOf_of hs w, if_neg hlim, Array.toList_map]
                by_cases h0 : len * sz = 0
                · have hl0 : len = 0 := by
                    rcases Nat.mul_eq_zero.1 h0 with h0 | h0
                    · exact h0
                    · omega
                  subst hl0
                  simp only [Nat.zero_mul, if_true, Sem.run_pure, Result.andThen_ok, Array.range_zero', Array.map_empty] at q1 ⊢
                  rw [q1]
                  simp [Go.newRow]
                · simp only [if_neg h0, Sem.run_bind, hzr w, Result.andThen_ok, Sem.run_pure]
                  rw [q1]
                  simp [Go.newRow]
              · simp only [RV]
                exact ⟨_, _, _, 0, len, Phi.cell_withCell _ _ _ _, rfl, .inl rfl, by omega, Nat.le_refl _, Nat.le_refl _, fun _ => rfl, by omega⟩
              · simp only [AM.newRow, next_newBlk, Pos.succ_toNat]; omega

theorem makeSlice_sound (h : Rel φ B H w) (hbd : bd ≤ w.heap.size) {t : TypeId} {l c v : AV} {ul uc : Value} (hl : RV φ l ul) (hc : RV φ c uc)
    (hr : doMakeSlice P t l c H = .ok v H') : RanV P (Instr.makeSlice t ul uc) bd φ B H w v H' := by
  unfold doMakeSlice at hr
  split at hr <;> try (simp at hr; done)
  rename_i kl l kc c
  simp only [RV] at hl hc
  subst hl hc
  cases hd : underOf P t with
  | none => rw [hd] at hr; simp at hr
  | some d =>
    rw [hd] at hr
    cases d <;> try (simp at hr; done)
    case slice elem =>
      simp only at hr
      cases hi : infoOf P elem with
      | none => rw [hi] at hr; simp at hr
      | some info =>
        cases hz : zeroOf P elem with
        | none => rw [hi, hz] at hr; simp at hr
        | some z =>
          rw [hi, hz] at hr
          simp only at hr
          cases hb : (Nat.ble l c && Nat.blt c 1099511627776 && Nat.ble (c * info.bytes) 140737488355328 && z.stores && Nat.beq z.cells.length info.size && Nat.blt 0 info.size) with
          | false => rw [hb] at hr; simp at hr
          | true =>
            rw [hb] at hr
            simp only [R2.ok.injEq] at hr
            obtain ⟨rfl, rfl⟩ := hr
            simp only [Bool.and_eq_true] at hb
            have e1 := Nat.le_of_ble_eq_true hb.1.1.1.1.1
            have e2 := blt_lt hb.1.1.1.1.2
            have e3 := Nat.le_of_ble_eq_true hb.1.1.1.2
            have e4 := Nat.eq_of_beq_eq_true hb.1.2
            obtain ⟨u, hzr, hu, hinfo⟩ := zero_of hz
            have hif := info_of hi
            rw [hif] at hinfo
            have hinfo : info.zero = some u := hinfo
            have hrv : RV φ z u := by rw [hu]; exact rv_ofValue φ 6 u
            obtain ⟨m1, m2, m3⟩ := made_of hrv hb.1.1.2 e4 c
            have hrun := run_make w t elem info u (under_of hd) hif hinfo kl kc (l : Int) (c : Int) (by omega) (by omega) (by rw [← Int.natCast_mul, Nat.mul_comm]; omega) (by omega)
            simp only [Int.toNat_natCast] at hrun
            have hsz : (madeCells u.cells (c * info.size)).size = c * info.size := by simp [madeCells]
            have hmul : l * info.size ≤ c * info.size := Nat.mul_le_mul_right _ e1
            obtain ⟨a, b⟩ := h.newRow m1 m2 false (madeCells u.cells (c * info.size)) elem 0 0 (c * info.size) (by rw [rep_length, e4]) (by omega) (fun j u hu => by rw [← Array.getElem?_toList]; exact hu) (fun j _ => by omega) (fun _ => ⟨rfl, rfl⟩) (grew_alloc w _) bd hbd
            refine ⟨_, _, _, hrun, ?_, a, b, ?_⟩
            · simp only [RV]
              exact ⟨_, _, _, 0, c, Phi.cell_withCell _ _ _ _, rfl, .inl rfl, by omega, e1, Nat.le_refl _, fun _ => rfl, by omega⟩
            · simp only [AM.newRow, next_newBlk, Pos.succ_toNat]; omega
end Go.AM

/- New maps and iterators. -/
namespace Go.AM
open Go
variable {P : Program} {φ : Phi} {B : Tree ABlk} {H H' : Heap} {w : World} {bd : Nat}

theorem sub_withObj (h : Rel φ B H w) (n : Nat) : Sub φ (φ.withObj H.next n) := by
  refine ⟨fun hx => hx, fun {b m} hx => ?_, fun hx => hx⟩
  simp only [Phi.withObj]
  by_cases e : b = H.next
  · rw [e, h.obj_new] at hx; simp at hx
  · rw [if_neg e]; exact hx

/-- A new map, or a new iterator. -/
theorem Rel.newObj {w' : World} {o : Obj} (h : Rel φ B H w) (x : ABlk) (hn : H'.next = H.next.succ) (hb : H'.blks = H.blks.set H.next x) (hst : H'.stamps = H.stamps) (hl : H'.last = none)
    (hx : ∀ st a b c d, x ≠ .cells st a b c d) (hw : Grew w w' o) (hbd : bd ≤ w.heap.size) (hnew : BlkAt (φ.withObj H.next w.heap.size) B H' w' H.next (some x)) :
    Rel (φ.withObj H.next w.heap.size) B H' w' ∧ Step bd φ H.next.toNat w (φ.withObj H.next w.heap.size) w' := by
  have hs := sub_withObj h w.heap.size
  have hinv : ∀ {b n}, (φ.withObj H.next w.heap.size).obj b = some n → (b = H.next ∧ n = w.heap.size) ∨ φ.obj b = some n := by
    intro b n hy
    simp only [Phi.withObj] at hy
    by_cases e : b = H.next
    · rw [if_pos e] at hy; exact .inl ⟨e, (Option.some.inj hy).symm⟩
    · rw [if_neg e] at hy; exact .inr hy
  have hsame : blk B H' H.next = some x := by simp [blk, hb, Tree.get_set_same]
  have hlt : H.next.toNat < H'.next.toNat := by rw [hn, Pos.succ_toNat]; omega
  refine ⟨?_, ⟨hs, hw.os, hw.tape, hw.output, by rw [hw.size]; omega, fun n hn _ => hw.old (by omega), fun n hn' hlt' => ?_, fun b hb' => ?_⟩⟩
  · refine h.extend H.next hs (by omega) (fun b' hne => by simp only [blk, hb]; rw [Tree.get_set_ne _ _ _ _ hne]) (fun _ _ _ _ x => x) (fun b' n hne hy => ?_)
      (fun n hn _ _ => hw.old (h.im hn)) (by rw [hw.size]; omega) (by rw [hsame]; exact hnew) ?_ ?_ ?_ ?_ ?_ hlt (fun hm => by rw [hst]; exact h.stamps hm) ?_ h.far
    · rcases hinv hy with ⟨e, _⟩ | hy
      · exact absurd e hne
      · exact hy
    · intro nm hnm
      rw [h.obj_new] at hnm; simp at hnm
    · intro n hn
      rcases hn with ⟨g, L, N, hg⟩ | hn
      · have : φ.cell H.next g = some (n, L, N) := hg
        rw [h.cell_new] at this; simp at this
      · rcases hinv hn with ⟨_, rfl⟩ | hn
        · exact ⟨by rw [hw.size]; omega, .inr (.inr fun hi => Nat.lt_irrefl _ (h.im hi))⟩
        · rw [h.obj_new] at hn; simp at hn
    · intro g n L N hg
      have : φ.cell H.next g = some (n, L, N) := hg
      rw [h.cell_new] at this; simp at this
    · intro g g' n n' L L' N N' h1
      have : φ.cell H.next g = some (n, L, N) := h1
      rw [h.cell_new] at this; simp at this
    · intro g n L N h1
      have : φ.cell H.next g = some (n, L, N) := h1
      rw [h.cell_new] at this; simp at this
    · intro s b k hl'
      rw [hl] at hl'; simp at hl'
  · rcases hn' with ⟨b, g, L, N, hg⟩ | ⟨b, hn'⟩
    · exact .inl ⟨b, g, L, N, hg⟩
    · rcases hinv hn' with ⟨_, rfl⟩ | hn'
      · omega
      · exact .inr ⟨b, hn'⟩
  · rcases hb' with ⟨g, x, hg⟩ | ⟨n, hn'⟩
    · exact .inl (.inl ⟨g, x, hg⟩)
    · rcases hinv hn' with ⟨e, _⟩ | hn'
      · exact .inr (by rw [e]; exact Nat.le_refl _)
      · exact .inl (.inr ⟨n, hn'⟩)

theorem run_getMap {n : Nat} {es : Array MapEntry} {c : Nat} (h : w.heap[n]? = some (.map es c)) : (getObj n).run P w = .ok (.map es c) w := by simp [getObj, Sem.run, h]
theorem run_setMap {n : Nat} {es : Array MapEntry} {c : Nat} (o' : Obj) (h : w.heap[n]? = some (.map es c)) : (setObj n o').run P w = .ok () { w with heap := w.heap.setIfInBounds n o' } := by simp [setObj, Sem.run, h]
theorem run_getIter {n : Nat} {m : Option Nat} {s : Nat} {seen : Array Nat} {c : Nat} (h : w.heap[n]? = some (.mapIter m s seen c)) : (getObj n).run P w = .ok (.mapIter m s seen c) w := by simp [getObj, Sem.run, h]
theorem run_setIter {n : Nat} {m : Option Nat} {s : Nat} {seen : Array Nat} {c : Nat} (o' : Obj) (h : w.heap[n]? = some (.mapIter m s seen c)) : (setObj n o').run P w = .ok () { w with heap := w.heap.setIfInBounds n o' } := by simp [setObj, Sem.run, h]

theorem mapAt_nil {n clock : Nat} (h : w.heap[n]? = some (.map #[] clock)) : MapAt φ w n [] := ⟨#[], clock, [], h, by simp, rfl, by simp, by simp, by simp⟩

theorem newMap_sound (h : Rel φ B H w) (hbd : bd ≤ w.heap.size) : RanV P (do pure (.map (some (← Go.newObj (.map #[] 0))))) bd φ B H w (.map H.next) (AM.newObj (.map 0 []) H) := by
  have hw := grew_alloc w (.map #[] 0)
  obtain ⟨a, b⟩ := h.newObj (H' := AM.newObj (.map 0 []) H) (.map 0 []) rfl rfl rfl rfl (by simp) hw hbd (fun n hn => by
    rw [Phi.obj_withObj] at hn
    obtain rfl := Option.some.inj hn
    exact mapAt_nil hw.new)
  exact ⟨_, .map (some w.heap.size), _, by simp, by simp only [RV]; exact ⟨_, Phi.obj_withObj _ _ _, rfl⟩, a, b, by simp only [AM.newObj, onHeap, Pos.succ_toNat]; omega⟩

theorem makeMap_sound (h : Rel φ B H w) (hbd : bd ≤ w.heap.size) {t : TypeId} {r : Option AV} {ur : Option Value} {v : AV} (hrr : match r, ur with | none, none => True | some a, some u => RV φ a u | _, _ => False)
    (hr : doMakeMap P t r H = .ok v H') : RanV P (Instr.makeMap t ur) bd φ B H w v H' := by
  unfold doMakeMap at hr
  split at hr
  · cases ur with
    | some _ => simp at hrr
    | none =>
      simp only [R2.ok.injEq] at hr
      obtain ⟨rfl, rfl⟩ := hr
      exact newMap_sound h hbd
  · rename_i k n
    cases ur with
    | none => simp at hrr
    | some u =>
      simp only [RV] at hrr
      subst hrr
      cases hd : underOf P t with
      | none => rw [hd] at hr; simp at hr
      | some d =>
        rw [hd] at hr
        cases d <;> try (simp at hr; done)
        case map key elem =>
          simp only [R2.ok.injEq] at hr
          obtain ⟨rfl, rfl⟩ := hr
          obtain ⟨φ', u, w', q, r⟩ := newMap_sound (P := P) h hbd
          exact ⟨φ', u, w', by simpa [Instr.makeMap, run_underlying_of hd w, asInt, asIntOf] using q, r⟩
  · simp at hr

theorem getMap_of {b : Pos} {f : Nat → List (AV × AV) → R2} {v : AV} (hr : getMap B H b f = .ok v H') : ∃ ver es, blk B H b = some (.map ver es) ∧ f ver es = .ok v H' := by
  unfold getMap at hr
  split at hr
  · exact ⟨_, _, by assumption, hr⟩
  · simp at hr

theorem newIter_sound (h : Rel φ B H w) (hbd : bd ≤ w.heap.size) {m : Option Pos} {um : Option Nat} {ver clock : Nat} {es : List (AV × AV)} {v : AV}
    (hm : match m, um with
      | none, none => es = []
      | some b, some n => φ.obj b = some n ∧ blk B H b = some (.map ver es) ∧ ∃ entries, w.heap[n]? = some (.map entries clock)
      | _, _ => False)
    (hr : newIter m ver es H = .ok v H') : RanV P (do pure (.pointer (some ⟨← Go.newObj (.mapIter um clock #[] clock), 0, none⟩))) bd φ B H w v H' := by
  simp only [newIter, R2.ok.injEq] at hr
  obtain ⟨rfl, rfl⟩ := hr
  have hw := grew_alloc w (.mapIter um clock #[] clock)
  have hs := sub_withObj h w.heap.size
  obtain ⟨a, b⟩ := h.newObj (H' := onHeap H fun next blks stamps _ its => ⟨next.succ, blks.set next (.iter m ver es none), stamps, none, next :: its⟩) (.iter m ver es none) rfl rfl rfl rfl (by simp) hw hbd (fun n hn => by
    rw [Phi.obj_withObj] at hn
    obtain rfl := Option.some.inj hn
    cases m with
    | none => cases um with
      | some _ => simp at hm
      | none => exact ⟨⟨_, _, _, hw.new⟩, hm⟩
    | some mb => cases um with
      | none => simp at hm
      | some nm =>
        obtain ⟨h1, h2, entries, h3⟩ := hm
        have hne : mb ≠ H.next := fun e => by rw [e, h.obj_new] at h1; simp at h1
        have hblk : blk B (onHeap H fun next blks stamps _ its => ⟨next.succ, blks.set next (.iter (some mb) ver es none), stamps, none, next :: its⟩) mb = blk B H mb := by
          simp only [blk, onHeap]; rw [Tree.get_set_ne _ _ _ _ hne]
        refine ⟨nm, _, _, _, hs.obj h1, hw.new, fun ver' es' hb => ?_⟩
        rw [hblk, h2] at hb
        simp only [Option.some.injEq, ABlk.map.injEq] at hb
        obtain ⟨rfl, rfl⟩ := hb
        refine ⟨Nat.le_refl _, fun _ => ?_⟩
        have hat := h.blks mb
        rw [h2] at hat
        obtain ⟨en, cl, l, c1, c2, c3, c4, c5, c6⟩ := hat nm h1
        rw [h3] at c1
        simp only [Option.some.injEq, Obj.map.injEq] at c1
        obtain ⟨rfl, rfl⟩ := c1
        refine ⟨entries, clock, l, l, (hw.old (h.im (.inr ⟨mb, h1⟩))).trans h3, c2, c3.mono hs, rfl, c4, ?_, c3.mono hs, by simp, by simp⟩
        rw [List.filter_eq_self.2]
        simp)
  exact ⟨_, .pointer (some ⟨w.heap.size, 0, none⟩), _, by simp, by simp only [RV]; exact ⟨_, Phi.obj_withObj _ _ _, rfl⟩, a, b, by simp only [onHeap, Pos.succ_toNat]; omega⟩

theorem range_sound (h : Rel φ B H w) (hbd : bd ≤ w.heap.size) {t : TypeId} {x v : AV} {u : Value} (hx : RV φ x u) (hr : doRange P B t x H = .ok v H') : RanV P (Instr.range t u) bd φ B H w v H' := by
  simp only [doRange] at hr
  cases hd : underOf P t with
  | none => rw [hd] at hr; simp at hr
  | some d =>
    rw [hd] at hr
    cases d <;> try (simp at hr; done)
    case map key elem =>
      cases x <;> try (simp at hr; done)
      case nilmap =>
        simp only [RV] at hx
        subst hx
        obtain ⟨φ', u, w', q, r⟩ := newIter_sound (P := P) (bd := bd) (um := none) (clock := 0) h hbd (by rfl) hr
        exact ⟨φ', u, w', by simpa [Instr.range, run_underlying_of hd w] using q, r⟩
      case map b =>
        simp only [RV] at hx
        obtain ⟨n, hn, rfl⟩ := hx
        simp only at hr
        obtain ⟨ver, es, hb, hr⟩ := getMap_of hr
        have hat := h.blks b
        rw [hb] at hat
        obtain ⟨en, cl, l, c1, _⟩ := hat n hn
        obtain ⟨φ', u, w', q, r⟩ := newIter_sound (P := P) (bd := bd) (m := some b) (um := some n) (clock := cl) h hbd ⟨hn, hb, en, c1⟩ hr
        exact ⟨φ', u, w', by simpa [Instr.range, run_underlying_of hd w, run_getMap c1] using q, r⟩
end Go.AM

/- len, cap, copy, clear, min, max, nil checks. -/
namespace Go.AM
open Go
variable {P : Program} {φ : Phi} {B : Tree ABlk} {H H' : Heap} {w : World} {bd : Nat}

theorem esRel_length : ∀ {es : List (AV × AV)} {l : List MapEntry}, EsRel φ es l → l.length = es.length
  | [], _, h => by simp only [EsRel] at h; simp [h]
  | _ :: _, _, h => by simp only [EsRel] at h; obtain ⟨e, l', rfl, _, _, h⟩ := h; simp [esRel_length h]

theorem len_sound (h : Rel φ B H w) {ts : Array TypeId} {ty t : TypeId} {x v : AV} {u : Value} (h0 : ts[0]? = some t) (hx : RV φ x u) (hr : doLen P B t x H = .ok v H') : RanV P (Builtin.len_ ts ty #[u]) bd φ B H w v H' := by
  have byType : lenByType P t H = .ok v H' → RanV P (Builtin.len_ ts ty #[u]) bd φ B H w v H' := by
    intro hr
    simp only [lenByType] at hr
    cases hd : underOf P t with
    | none => rw [hd] at hr; simp at hr
    | some d =>
      rw [hd] at hr
      cases d <;> try (simp at hr; done)
      case array n e =>
        simp only [R2.ok.injEq] at hr
        obtain ⟨rfl, rfl⟩ := hr
        exact RanV.same h (u := goInt n) (by simp [Builtin.len_, h0, run_underlying_of hd w]) (by simp [RV, goInt])
      case pointer arr =>
        simp only at hr
        cases ha : underOf P arr with
        | none => rw [ha] at hr; simp at hr
        | some d =>
          rw [ha] at hr
          cases d <;> try (simp at hr; done)
          case array n e =>
            simp only [R2.ok.injEq] at hr
            obtain ⟨rfl, rfl⟩ := hr
            exact RanV.same h (u := goInt n) (by simp [Builtin.len_, h0, run_underlying_of hd w, run_underlying_of ha w]) (by simp [RV, goInt])
  cases x <;> simp only [doLen] at hr <;> try (exact byType hr)
  case str s =>
    cases hd : underOf P t with
    | none => rw [hd] at hr; simp at hr
    | some d =>
      rw [hd] at hr
      cases d <;> try (simp at hr; done)
      case string =>
        simp only [RV] at hx
        obtain ⟨b, rfl, rfl⟩ := hx
        simp only [R2.ok.injEq] at hr
        obtain ⟨rfl, rfl⟩ := hr
        exact RanV.same h (u := goInt b.size) (by simp [Builtin.len_, h0, run_underlying_of hd w]) (by simp [RV, goInt])
  case nilslice =>
    cases hd : underOf P t with
    | none => rw [hd] at hr; simp at hr
    | some d =>
      rw [hd] at hr
      cases d <;> try (simp at hr; done)
      case slice e =>
        simp only [RV] at hx
        subst hx
        simp only [R2.ok.injEq] at hr
        obtain ⟨rfl, rfl⟩ := hr
        exact RanV.same h (u := goInt 0) (by simp [Builtin.len_, h0, run_underlying_of hd w]) (by simp [RV, goInt])
  case slice b g off len kc ex sz =>
    cases hd : underOf P t with
    | none => rw [hd] at hr; simp at hr
    | some d =>
      rw [hd] at hr
      cases d <;> try (simp at hr; done)
      case slice e =>
        simp only [RV] at hx
        obtain ⟨n, L, N, o, cap, hc, rfl, _⟩ := hx
        simp only [R2.ok.injEq] at hr
        obtain ⟨rfl, rfl⟩ := hr
        exact RanV.same h (u := goInt len) (by simp [Builtin.len_, h0, run_underlying_of hd w]) (by simp [RV, goInt])
  case nilmap =>
    cases hd : underOf P t with
    | none => rw [hd] at hr; simp at hr
    | some d =>
      rw [hd] at hr
      cases d <;> try (simp at hr; done)
      case map k e =>
        simp only [RV] at hx
        subst hx
        simp only [R2.ok.injEq] at hr
        obtain ⟨rfl, rfl⟩ := hr
        exact RanV.same h (u := goInt 0) (by simp [Builtin.len_, h0, run_underlying_of hd w]) (by simp [RV, goInt])
  case map b =>
    cases hd : underOf P t with
    | none => rw [hd] at hr; simp at hr
    | some d =>
      rw [hd] at hr
      cases d <;> try (simp at hr; done)
      case map k e =>
        simp only [RV] at hx
        obtain ⟨n, hn, rfl⟩ := hx
        simp only at hr
        obtain ⟨ver, es, hb, hr⟩ := getMap_of hr
        simp only [R2.ok.injEq] at hr
        obtain ⟨rfl, rfl⟩ := hr
        have hat := h.blks b
        rw [hb] at hat
        obtain ⟨en, cl, l, c1, c2, c3, _⟩ := hat n hn
        have hlen : en.size = es.length := by rw [← esRel_length c3, c2.length_eq]; simp
        exact RanV.same h (u := goInt es.length) (by simp [Builtin.len_, h0, run_underlying_of hd w, run_getMap c1, hlen]) (by simp [RV, goInt])

theorem cap_sound (h : Rel φ B H w) {ts : Array TypeId} {ty t : TypeId} {x v : AV} {u : Value} (h0 : ts[0]? = some t) (hx : RV φ x u) (hr : doCap P t x H = .ok v H') : RanV P (Builtin.cap_ ts ty #[u]) bd φ B H w v H' := by
  unfold doCap at hr
  split at hr
  · rename_i hd
    simp only [RV] at hx
    subst hx
    simp only [R2.ok.injEq] at hr
    obtain ⟨rfl, rfl⟩ := hr
    exact RanV.same h (u := goInt 0) (by simp [Builtin.cap_, h0, run_underlying_of hd w]) (by simp [RV, goInt])
  · rename_i hd
    simp only [RV] at hx
    obtain ⟨n, L, N, o, cap, hc, rfl, _, _, _, _, hex, _⟩ := hx
    have := hex trivial
    subst this
    simp only [R2.ok.injEq] at hr
    obtain ⟨rfl, rfl⟩ := hr
    exact RanV.same h (u := goInt cap) (by simp [Builtin.cap_, h0, run_underlying_of hd w]) (by simp [RV, goInt])
  · simp at hr

theorem srcFirst_of (h : Rel φ B H w) {x : AV} {u : Value} {n sz k : Nat} {cs : List AV} (hx : RV φ x u) (hn : srcLen x = some n) (hr : srcCells B H sz x = some cs) (hk : k ≤ n) :
    ∃ us : List Value, RVs φ (cs.take (k * sz)) us ∧ (∀ c ∈ cs.take (k * sz), c.isCell = true) ∧ (Builtin.firstCells sz k u).run P w = .ok us.toArray w := by
  cases x <;> simp only [srcCells] at hr <;> try (simp at hr; done)
  case nilslice =>
    simp only [srcLen, Option.some.injEq] at hn hr
    simp only [RV] at hx
    subst hx hn hr
    exact ⟨[], by simp [RVs], by simp, rfl⟩
  case slice b g off len kc ex sz' =>
    simp only [srcLen, Option.some.injEq] at hn
    subst hn
    simp only [RV] at hx
    obtain ⟨n, L, N, o, cap, hc, rfl, ho, hL, hkc, hcap, hex, hN⟩ := hx
    cases hz : Nat.beq sz sz' with
    | false => rw [hz] at hr; simp at hr
    | true =>
      rw [hz] at hr
      have := Nat.eq_of_beq_eq_true hz
      subst this
      simp only at hr
      have hmul : k * sz ≤ len * sz := Nat.mul_le_mul_right _ hk
      have hr' : readCells B H b g off (k * sz) = some (cs.take (k * sz)) := by
        unfold readCells at hr ⊢
        split at hr
        · rename_i hb
          split at hr
          · rename_i hm
            simp only [Option.some.injEq] at hr
            subst hr
            simp only [hm, List.take_take, Nat.min_eq_left hmul]
          · simp at hr
        · simp at hr
      obtain ⟨us, h1, h2, h3, h4⟩ := h.read hr' hc (by omega)
      refine ⟨us, h1, h3, ?_⟩
      rcases ho with rfl | rfl
      · exact h4 P
      · have : k = 0 := by omega
        subst this
        simp only [Nat.zero_mul] at h2
        have : us = [] := List.eq_nil_of_length_eq_zero h2
        subst this
        simp [Builtin.firstCells, loadCells, loadCellsFrom]
  case str s =>
    simp only [srcLen, Option.some.injEq] at hn
    simp only [RV] at hx
    obtain ⟨b, rfl, rfl⟩ := hx
    subst hn
    cases hz : Nat.beq sz 1 with
    | false => rw [hz] at hr; simp at hr
    | true =>
      rw [hz] at hr
      have := Nat.eq_of_beq_eq_true hz
      subst this
      simp only [Option.some.injEq] at hr
      subst hr
      have hh : Builtin.firstCells 1 k (.string b) = .pure ((b.extract 0 k).data.map fun x => Value.int .u8 x.toNat) := rfl
      refine ⟨_, (bytesOf_rvs φ b.data.toList).take _, fun c hc => bytesOf_cells _ c (List.mem_of_mem_take hc), ?_⟩
      rw [hh]
      simp only [Sem.run, Result.ok.injEq, and_true]
      apply Array.ext'
      simp [ByteArray.data_extract, List.extract_eq_take_drop, List.map_take]

theorem copy_sound (h : Rel φ B H w) {ts : Array TypeId} {ty t : TypeId} {d s v : AV} {u z : Value} (h0 : ts[0]? = some t) (hd : RV φ d u) (hs : RV φ s z) (hr : doCopy P B t d s H = .ok v H') : RanV P (Builtin.copy_ ts ty #[u, z]) bd φ B H w v H' := by
  simp only [doCopy] at hr
  cases hu : underOf P t with
  | none => rw [hu] at hr; simp at hr
  | some ud =>
    rw [hu] at hr
    cases ud <;> try (simp at hr; done)
    case slice elem =>
      simp only at hr
      cases hsz : sizeOf P elem with
      | none => rw [hsz] at hr; simp at hr
      | some sz =>
        rw [hsz] at hr
        simp only at hr
        cases hn : srcLen s with
        | none => rw [hn] at hr; simp at hr
        | some n =>
          cases hc : srcCells B H sz s with
          | none => rw [hn, hc] at hr; simp at hr
          | some cs =>
            rw [hn, hc] at hr
            simp only at hr
            have hlen := srcLen_of (P := P) hs hn w
            cases d <;> try (simp at hr; done)
            case nilslice =>
              simp only [R2.ok.injEq] at hr
              obtain ⟨rfl, rfl⟩ := hr
              simp only [RV] at hd
              subst hd
              obtain ⟨us, q1, q2, q3⟩ := srcFirst_of (P := P) (k := 0) h hs hn hc (Nat.zero_le _)
              have hmin : n.min 0 = 0 := Nat.min_eq_right (Nat.zero_le _)
              exact RanV.same h (u := goInt 0) (by simp [Builtin.copy_, h0, run_underlying_of hu w, hlen, run_sizeOf_of hsz w, hmin, q3]) (by simp [RV, goInt])
            case slice b g off m kc ex sz' =>
              simp only at hr
              cases hz : Nat.beq sz sz' with
              | false => rw [hz] at hr; simp at hr
              | true =>
                rw [hz] at hr
                have := Nat.eq_of_beq_eq_true hz
                subst this
                simp only at hr
                cases hq : writeCells B H b g off (cs.take (Nat.min n m * sz)) with
                | none => rw [hq] at hr; simp [retInt] at hr
                | some H1 =>
                  rw [hq] at hr
                  simp only [retInt, R2.ok.injEq] at hr
                  obtain ⟨rfl, rfl⟩ := hr
                  simp only [RV] at hd
                  obtain ⟨n0, L, N, o, cap, hcell, rfl, ho, hL, hkc, hcap, hex, hN⟩ := hd
                  obtain ⟨us, q1, q2, q3⟩ := srcFirst_of (P := P) (k := Nat.min n m) h hs hn hc (Nat.min_le_left _ _)
                  obtain ⟨w', p1, p2, p3, p4⟩ := h.write hq hcell q1 q2 bd H.next.toNat P
                  have hst : (storeCells ⟨n0, o, none⟩ us 0).run P w = .ok () w' := by
                    rcases ho with rfl | rfl
                    · exact p1
                    · have h0' : Nat.min n m = 0 := Nat.eq_zero_of_le_zero (Nat.le_trans (Nat.min_le_right n m) (by omega))
                      rw [h0'] at q1
                      simp only [Nat.zero_mul, List.take_zero, RVs] at q1
                      subst q1
                      exact p1
                  refine ⟨φ, goInt (Nat.min n m), w', ?_, by simp [RV, goInt], p2, p3, by rw [p4]; exact Nat.le_refl _⟩
                  simp [Builtin.copy_, h0, run_underlying_of hu w, hlen, run_sizeOf_of hsz w, q3, hst]

theorem clear_sound (h : Rel φ B H w) {ts : Array TypeId} {ty t : TypeId} {x v : AV} {u : Value} (h0 : ts[0]? = some t) (hx : RV φ x u) (hr : doClear P B t x H = .ok v H') : RanV P (Builtin.clear_ ts ty #[u]) bd φ B H w v H' := by
  simp only [doClear] at hr
  cases hd : underOf P t with
  | none => rw [hd] at hr; simp at hr
  | some d =>
    rw [hd] at hr
    cases d <;> try (simp at hr; done)
    case slice elem =>
      cases x <;> try (simp at hr; done)
      case nilslice =>
        simp only [R2.ok.injEq] at hr
        obtain ⟨rfl, rfl⟩ := hr
        simp only [RV] at hx
        subst hx
        exact RanV.same h (u := .tuple #[]) (by simp [Builtin.clear_, h0, run_underlying_of hd w]) (by simp [RV, RVs])
      case slice b g off len kc ex sz =>
        simp only at hr
        cases hz : zeroOf P elem with
        | none => rw [hz] at hr; simp at hr
        | some z =>
          rw [hz] at hr
          simp only at hr
          cases hb : (z.stores && Nat.beq z.cells.length sz) with
          | false => rw [hb] at hr; simp at hr
          | true =>
            rw [hb] at hr
            simp only [Bool.and_eq_true] at hb
            simp only at hr
            cases hq : writeCells B H b g off (repZero z.cells len) with
            | none => rw [hq] at hr; simp [retNothing] at hr
            | some H1 =>
              rw [hq] at hr
              simp only [retNothing, R2.ok.injEq] at hr
              obtain ⟨rfl, rfl⟩ := hr
              simp only [RV] at hx
              obtain ⟨n0, L, N, o, cap, hcell, rfl, ho, hL, hkc, hcap, hex, hN⟩ := hx
              obtain ⟨zu, hzr, hu, _⟩ := zero_of hz
              have hrv : RV φ z zu := by rw [hu]; exact rv_ofValue φ 6 zu
              obtain ⟨hv1, hv2⟩ := RV.stored hrv hb.1
              obtain ⟨w', p1, p2, p3, p4⟩ := h.write hq hcell (rvs_rep hv1 len) (rep_cells hv2 len) bd H.next.toNat P
              refine ⟨φ, .tuple #[], w', ?_, by simp [RV, RVs], p2, p3, by rw [p4]; exact Nat.le_refl _⟩
              cases len with
              | zero =>
                simp only [List.replicate_zero, List.flatten_nil, storeCells, Sem.run_pure, Result.ok.injEq, true_and] at p1
                subst p1
                simp [Builtin.clear_, h0, run_underlying_of hd w]
              | succ len =>
                have ho : o = off := by omega
                subst ho
                rw [← zeroCells_list] at p1
                simp [Builtin.clear_, h0, run_underlying_of hd w, hzr w, p1]

theorem fold_sound {f : AV → AV → Option AV} {g : Value → Value → Sem Value} (hfg : ∀ {x y z : AV} {u t : Value}, RV φ x u → RV φ y t → f x y = some z → ∃ r, (g u t).run P w = .ok r w ∧ RV φ z r) :
    ∀ {l : List AV} {us : List Value} {x z : AV} {u : Value}, RV φ x u → RVs φ l us → foldA f x l = some z → ∃ r, (us.foldlM g u).run P w = .ok r w ∧ RV φ z r
  | [], us, x, z, u, hx, hl, hr => by
    simp only [RVs] at hl
    subst hl
    simp only [foldA, Option.some.injEq] at hr
    subst hr
    exact ⟨u, by simp, hx⟩
  | y :: l, us, x, z, u, hx, hl, hr => by
    simp only [RVs] at hl
    obtain ⟨t, us', rfl, hy, hl⟩ := hl
    simp only [foldA] at hr
    cases hq : f x y with
    | none => rw [hq] at hr; simp at hr
    | some q =>
      rw [hq] at hr
      obtain ⟨r, h1, h2⟩ := hfg hx hy hq
      obtain ⟨r', h3, h4⟩ := fold_sound hfg h2 hl hr
      exact ⟨r', by simp [List.foldlM_cons, h1, h3], h4⟩

theorem min2_of {x y z : AV} {u t : Value} (hx : RV φ x u) (hy : RV φ y t) (hr : min2 x y = some z) : ∃ r, (Builtin.min2 u t).run P w = .ok r w ∧ RV φ z r := by
  unfold min2 at hr
  split at hr
  · simp only [RV] at hx hy
    subst hx hy
    simp only [Option.some.injEq] at hr
    subst hr
    exact ⟨_, rfl, by simp [RV]⟩
  · simp at hr
theorem max2_of {x y z : AV} {u t : Value} (hx : RV φ x u) (hy : RV φ y t) (hr : max2 x y = some z) : ∃ r, (Builtin.max2 u t).run P w = .ok r w ∧ RV φ z r := by
  unfold max2 at hr
  split at hr
  · simp only [RV] at hx hy
    subst hx hy
    simp only [Option.some.injEq] at hr
    subst hr
    exact ⟨_, rfl, by simp [RV]⟩
  · simp at hr

theorem minMax_sound (h : Rel φ B H w) {f : AV → AV → Option AV} {g : Value → Value → Sem Value} (hfg : ∀ {x y z : AV} {u t : Value}, RV φ x u → RV φ y t → f x y = some z → ∃ r, (g u t).run P w = .ok r w ∧ RV φ z r)
    {args : List AV} {us : List Value} {v : AV} (ha : RVs φ args us) (hr : doMinMax f args H = .ok v H') : ∃ u us', us = u :: us' ∧ RanV P (us'.foldlM g u) bd φ B H w v H' := by
  cases args with
  | nil => simp [doMinMax] at hr
  | cons x l =>
    simp only [RVs] at ha
    obtain ⟨u, us', rfl, hx, hl⟩ := ha
    simp only [doMinMax] at hr
    cases hq : foldA f x l with
    | none => rw [hq] at hr; simp [retn] at hr
    | some z =>
      rw [hq] at hr
      simp only [retn, R2.ok.injEq] at hr
      obtain ⟨rfl, rfl⟩ := hr
      obtain ⟨r, h1, h2⟩ := fold_sound hfg hx hl hq
      exact ⟨u, us', rfl, RanV.same h h1 h2⟩
end Go.AM

/- Keys of maps: how they are found. -/
namespace Go.AM
open Go
variable {P : Program} {φ : Phi} {B : Tree ABlk} {H H' : Heap} {w : World} {bd : Nat}

theorem part1 {e : TypeId} (h1 : underOf P e = some (.int .i64)) {cs : Array Value} {i : Nat} {v : Value} (hv : cs[i]? = some v) : (part e cs i).run P w = .ok v w := by
  have : isAgg P e = some false := by simp [isAgg, h1]
  unfold part
  simp only [Sem.run_bind, isAgg_of this w, Result.andThen_ok, Bool.false_eq_true, if_false, hv, Sem.run_pure]
theorem equal_pair {t e : TypeId} (ht : underOf P t = some (.array 2 e)) (h1 : underOf P e = some (.int .i64)) (h2 : sizeOf P e = some 1) (a b c d : Int) (m : Nat) :
    (Op.equalIn (m + 2) t (.agg #[.int .i64 a, .int .i64 b]) (.agg #[.int .i64 c, .int .i64 d])).run P w = .ok (decide (a = c) && decide (b = d)) w := by
  rw [Op.equalIn]
  have p0 : ∀ x y : Int, (part e #[.int .i64 x, .int .i64 y] (0 * 1)).run P w = .ok (.int .i64 x) w := fun x y => part1 h1 rfl
  have p1 : ∀ x y : Int, (part e #[.int .i64 x, .int .i64 y] (1 * 1)).run P w = .ok (.int .i64 y) w := fun x y => part1 h1 rfl
  have q : ∀ x y : Int, (Op.equalIn (m + 1) e (.int .i64 x) (.int .i64 y)).run P w = .ok (x == y) w := fun x y => by simp [Op.equalIn, run_underlying_of h1 w]
  by_cases ha : a = c
  · by_cases hb : b = d
    · simp [run_underlying_of ht w, run_sizeOf_of h2 w, Std.Legacy.Range.forIn_eq_forIn_range', Std.Legacy.Range.size, p0, p1, q, List.range', ha, hb]
    · simp [run_underlying_of ht w, run_sizeOf_of h2 w, Std.Legacy.Range.forIn_eq_forIn_range', Std.Legacy.Range.size, p0, p1, q, List.range', ha, hb]
  · simp [run_underlying_of ht w, run_sizeOf_of h2 w, Std.Legacy.Range.forIn_eq_forIn_range', Std.Legacy.Range.size, p0, p1, q, List.range', ha]
theorem check_pair {t e : TypeId} (ht : underOf P t = some (.array 2 e)) (h1 : underOf P e = some (.int .i64)) (h2 : sizeOf P e = some 1) (a b : Int) (em : Bool) (m : Nat) :
    (Instr.checkKey em (m + 2) t (.agg #[.int .i64 a, .int .i64 b])).run P w = .ok () w := by
  rw [Instr.checkKey]
  have p0 : ∀ x y : Int, (part e #[.int .i64 x, .int .i64 y] (0 * 1)).run P w = .ok (.int .i64 x) w := fun x y => part1 h1 rfl
  have p1 : ∀ x y : Int, (part e #[.int .i64 x, .int .i64 y] (1 * 1)).run P w = .ok (.int .i64 y) w := fun x y => part1 h1 rfl
  have q : ∀ x : Int, (Instr.checkKey em (m + 1) e (.int .i64 x)).run P w = .ok () w := fun x => by simp [Instr.checkKey, run_underlying_of h1 w]
  simp [run_underlying_of ht w, run_sizeOf_of h2 w, Std.Legacy.Range.forIn_eq_forIn_range', Std.Legacy.Range.size, p0, p1, q, List.range']

theorem bytes_same {a b : ByteArray} : (a == b) = true ↔ a = b := by
  cases a with | mk x => cases b with | mk y =>
  constructor
  · intro h
    have e : x = y := by simpa using (show (x == y) = true from h)
    rw [e]
  · intro h
    cases h
    show (x == x) = true
    simp

/-- The kinds of keys. -/
theorem isKey_cases {k : AV} {t : TypeId} (h : k.isKey (underOf P) (sizeOf P) t = true) :
    (∃ kd n, underOf P t = some (.int kd) ∧ k = .int kd n) ∨ (∃ s, underOf P t = some .string ∧ k = .str s) ∨
    ∃ e a b, underOf P t = some (.array 2 e) ∧ underOf P e = some (.int .i64) ∧ sizeOf P e = some 1 ∧ k = .agg [.int .i64 a, .int .i64 b] := by
  unfold AV.isKey at h
  split at h
  · rename_i kd k' n hd
    have := of_decide_eq_true h
    subst this
    exact .inl ⟨_, n, hd, rfl⟩
  · rename_i s hd
    exact .inr (.inl ⟨s, hd, rfl⟩)
  · rename_i e a b hd
    split at h
    · rename_i h1 h2
      exact .inr (.inr ⟨e, a, b, hd, h1, h2, rfl⟩)
    · simp at h
  · simp at h

theorem str_inj {b b' : ByteArray} (h : b.data.toList.map UInt8.toNat = b'.data.toList.map UInt8.toNat) : b = b' := by
  rw [← bytes_back b, ← bytes_back b', h]

theorem rv_pair {φ : Phi} {a b : Int} {u : Value} (h : RV φ (.agg [.int .i64 a, .int .i64 b]) u) : u = .agg #[.int .i64 a, .int .i64 b] := by
  simp only [RV, RVs] at h
  obtain ⟨us, rfl, ⟨x, us', rfl, rfl, y, us'', rfl, rfl, rfl⟩, _⟩ := h
  rfl

theorem key_same {k : AV} {t : TypeId} (h : k.isKey (underOf P) (sizeOf P) t = true) {u u' : Value} (h1 : RV φ k u) (h2 : RV φ k u') : u = u' := by
  rcases isKey_cases h with ⟨kd, n, _, rfl⟩ | ⟨s, _, rfl⟩ | ⟨e, a, b, _, _, _, rfl⟩
  · simp only [RV] at h1 h2; rw [h1, h2]
  · simp only [RV] at h1 h2
    obtain ⟨b, rfl, hb⟩ := h1
    obtain ⟨b', rfl, hb'⟩ := h2
    rw [str_inj (hb.trans hb'.symm)]
  · rw [rv_pair h1, rv_pair h2]

theorem keq_true {k k' : AV} (h : k.keq k' = some true) : k' = k := by
  unfold AV.keq at h
  split at h
  · split at h
    · rename_i e
      simp only [Option.some.injEq, decide_eq_true_eq] at h
      rw [e, h]
    · simp at h
  · simp only [Option.some.injEq] at h
    rw [eq_of_beq h]
  · simp only [Option.some.injEq, Bool.and_eq_true, decide_eq_true_eq] at h
    rw [h.1, h.2]
  · simp at h

theorem keq_pair {x y : Int} {k' : AV} {b : Bool} (h : (AV.agg [.int .i64 x, .int .i64 y]).keq k' = some b) : ∃ m m', k' = .agg [.int .i64 m, .int .i64 m'] ∧ b = (decide (x = m) && decide (y = m')) := by
  generalize hk : AV.agg [.int .i64 x, .int .i64 y] = k at h
  unfold AV.keq at h
  split at h
  · cases hk
  · cases hk
  · simp only [AV.agg.injEq, List.cons.injEq, AV.int.injEq, true_and, and_true] at hk
    obtain ⟨rfl, rfl⟩ := hk
    simp only [Option.some.injEq] at h
    exact ⟨_, _, rfl, h.symm⟩
  · simp at h

/-- One test. -/
theorem key_test {k k' : AV} {t : TypeId} (h : k.isKey (underOf P) (sizeOf P) t = true) {u u' : Value} {b : Bool} (h1 : RV φ k u) (h2 : RV φ k' u') (hq : k.keq k' = some b) :
    ∃ d, underOf P t = some d ∧ (Instr.sameNow d u u' = some b ∨ ((∃ n e, d = .array n e) ∧ ∀ w, (Op.equal t u u').run P w = .ok b w)) ∧ (b = true ↔ u' = u) := by
  rcases isKey_cases h with ⟨kd, n, hd, rfl⟩ | ⟨s, hd, rfl⟩ | ⟨e, x, y, hd, he, hs, rfl⟩
  · refine ⟨_, hd, ?_⟩
    cases k' <;> simp only [AV.keq] at hq <;> try (simp at hq; done)
    case int kd' m =>
      split at hq
      · rename_i e
        simp only [Option.some.injEq] at hq
        subst hq e
        simp only [RV] at h1 h2
        subst h1 h2
        refine ⟨.inl (by simp [Instr.sameNow]; rfl), by simp [eq_comm]⟩
      · simp at hq
  · refine ⟨_, hd, ?_⟩
    cases k' <;> simp only [AV.keq] at hq <;> try (simp at hq; done)
    case str s' =>
      simp only [Option.some.injEq] at hq
      simp only [RV] at h1 h2
      obtain ⟨b1, rfl, e1⟩ := h1
      obtain ⟨b2, rfl, e2⟩ := h2
      have key : b = true ↔ b2 = b1 := by
        rw [← hq]
        constructor
        · intro hh
          have := eq_of_beq hh
          exact str_inj (by rw [e1, e2, this])
        · intro hh
          subst hh
          rw [← e1, ← e2]; simp
      refine ⟨.inl ?_, by simp [key]⟩
      simp only [Instr.sameNow, Option.some.injEq]
      cases b with
      | true => have := key.1 rfl; subst this; exact bytes_same.2 rfl
      | false =>
        have : ¬ b2 = b1 := fun e => by have := key.2 e; simp at this
        cases hb : (b1 == b2) with
        | false => rfl
        | true => exact absurd (bytes_same.1 hb).symm this
  · refine ⟨_, hd, ?_⟩
    obtain ⟨m, m', rfl, rfl⟩ := keq_pair hq
    rw [rv_pair h1, rv_pair h2]
    refine ⟨.inr ⟨⟨_, _, rfl⟩, fun w => equal_pair hd he hs _ _ _ _ 9998⟩, ?_⟩
    constructor
    · intro hh
      simp only [Bool.and_eq_true, decide_eq_true_eq] at hh
      rw [hh.1, hh.2]
    · intro hh
      simp only [Value.agg.injEq, Array.mk.injEq, List.cons.injEq, Value.int.injEq, true_and, and_true] at hh
      simp [hh.1, hh.2]

def findP (p : MapEntry → Bool) : List MapEntry → Nat → Option (Nat × Value)
  | [], _ => none
  | e :: l, i => match p e with
    | true => some (i, e.val)
    | false => findP p l (i + 1)

theorem findP_none (p : MapEntry → Bool) : ∀ (L : List MapEntry) (i : Nat), (∀ e ∈ L, p e = false) → findP p L i = none
  | [], _, _ => rfl
  | e :: l, i, h => by simp only [findP, h e (by simp)]; exact findP_none p l (i + 1) fun x hx => h x (by simp [hx])
theorem findP_some (p : MapEntry → Bool) {e : MapEntry} (he : p e = true) (C : List MapEntry) : ∀ (A : List MapEntry) (i : Nat), (∀ x ∈ A, p x = false) → findP p (A ++ e :: C) i = some (i + A.length, e.val)
  | [], i, _ => by simp [findP, he]
  | a :: A, i, h => by
    simp only [List.cons_append, findP, h a (by simp), List.length_cons]
    rw [findP_some p he C A (i + 1) fun x hx => h x (by simp [hx])]
    congr 2; omega

theorem findNow_p {d : TypeDesc} {u : Value} {p : MapEntry → Bool} : ∀ (L : List MapEntry) (i : Nat), (∀ e ∈ L, Instr.sameNow d u e.key = some (p e)) → Instr.findNow d u L i = some (findP p L i)
  | [], _, _ => rfl
  | e :: l, i, h => by
    have := h e (by simp)
    simp only [Instr.findNow, this, findP]
    cases p e with
    | true => rfl
    | false => exact findNow_p l (i + 1) fun x hx => h x (by simp [hx])
theorem findAsking_p {t : TypeId} {u : Value} {p : MapEntry → Bool} (w : World) : ∀ (L : List MapEntry) (i : Nat), (∀ e ∈ L, ∀ w, (Op.equal t u e.key).run P w = .ok (p e) w) → (Instr.findAsking t u L i).run P w = .ok (findP p L i) w
  | [], _, _ => rfl
  | e :: l, i, h => by
    have := h e (by simp) w
    simp only [Instr.findAsking, Sem.run_bind, this, Result.andThen_ok, findP]
    cases p e with
    | true => rfl
    | false => exact findAsking_p w l (i + 1) fun x hx => h x (by simp [hx])

theorem run_find {t : TypeId} {d : TypeDesc} {u : Value} {p : MapEntry → Bool} (hd : underOf P t = some d) (L : List MapEntry) (w : World)
    (h : ∀ e ∈ L, Instr.sameNow d u e.key = some (p e) ∨ ((∃ n e, d = .array n e) ∧ ∀ w, (Op.equal t u e.key).run P w = .ok (p e) w)) : (Instr.findKey t u L).run P w = .ok (findP p L 0) w := by
  unfold Instr.findKey
  simp only [Sem.run_bind, run_underlying_of hd w, Result.andThen_ok]
  by_cases ha : ∃ n e, d = .array n e
  · obtain ⟨n, el, rfl⟩ := ha
    cases L with
    | nil => rfl
    | cons e l =>
      have hn : Instr.sameNow (.array n el) u e.key = none := by cases u <;> rfl
      have : Instr.findNow (.array n el) u (e :: l) 0 = none := by simp only [Instr.findNow, hn]
      rw [this]
      refine findAsking_p w (e :: l) 0 fun x hx => ?_
      rcases h x hx with h | ⟨_, h⟩
      · have : Instr.sameNow (.array n el) u x.key = none := by cases u <;> rfl
        rw [this] at h; simp at h
      · exact h
  · rw [findNow_p L 0 fun x hx => (h x hx).resolve_right fun h => ha h.1]
    rfl
end Go.AM

/- Entries of maps: found, or not. -/
namespace Go.AM
open Go
variable {P : Program} {φ : Phi} {B : Tree ABlk} {H H' : Heap} {w : World} {bd : Nat}

theorem mfind_none {k : AV} : ∀ {es : List (AV × AV)}, mfind k es = some none → ∀ x ∈ es, k.keq x.1 = some false
  | [], _, x, hx => by simp at hx
  | (k', v') :: l, h, x, hx => by
    simp only [mfind] at h
    cases hq : k.keq k' with
    | none => rw [hq] at h; simp at h
    | some b =>
      rw [hq] at h
      cases b with
      | true => simp at h
      | false =>
        rcases List.mem_cons.1 hx with rfl | hx
        · exact hq
        · exact mfind_none h x hx

theorem mfind_some {k v : AV} : ∀ {es : List (AV × AV)}, mfind k es = some (some v) → ∃ es1 es2, es = es1 ++ (k, v) :: es2 ∧ (∀ x ∈ es1, k.keq x.1 = some false) ∧ k.keq k = some true
  | [], h => by simp [mfind] at h
  | (k', v') :: l, h => by
    simp only [mfind] at h
    cases hq : k.keq k' with
    | none => rw [hq] at h; simp at h
    | some b =>
      rw [hq] at h
      cases b with
      | true =>
        simp only [Option.some.injEq] at h
        have := keq_true hq
        subst this h
        exact ⟨[], l, rfl, by simp, hq⟩
      | false =>
        obtain ⟨es1, es2, rfl, h1, h2⟩ := mfind_some h
        refine ⟨(k', v') :: es1, es2, rfl, fun x hx => ?_, h2⟩
        rcases List.mem_cons.1 hx with rfl | hx
        · exact hq
        · exact h1 x hx

theorem mrep_split {k v x : AV} {es2 : List (AV × AV)} (hk : k.keq k = some true) : ∀ {es1 : List (AV × AV)}, (∀ y ∈ es1, k.keq y.1 = some false) → mrep k x (es1 ++ (k, v) :: es2) = es1 ++ (k, x) :: es2
  | [], _ => by simp [mrep, hk]
  | y :: es1, h => by
    have := h y (by simp)
    simp only [List.cons_append, mrep, this]
    rw [mrep_split hk fun z hz => h z (by simp [hz])]
theorem mdel_split {k v : AV} {es2 : List (AV × AV)} (hk : k.keq k = some true) : ∀ {es1 : List (AV × AV)}, (∀ y ∈ es1, k.keq y.1 = some false) → mdel k (es1 ++ (k, v) :: es2) = es1 ++ es2
  | [], _ => by simp [mdel, hk]
  | y :: es1, h => by
    have := h y (by simp)
    simp only [List.cons_append, mdel, this]
    rw [mdel_split hk fun z hz => h z (by simp [hz])]

theorem mset_split {k x : AV} : ∀ {es : List (AV × AV)}, (∀ y ∈ es, k.keq y.1 = some false) → ∃ es1 es2, es = es1 ++ es2 ∧ mset k x es = es1 ++ (k, x) :: es2
  | [], _ => ⟨[], [], rfl, rfl⟩
  | y :: es, h => by
    have hy := h y (by simp)
    obtain ⟨ky, vy⟩ := y
    simp only [mset, hy]
    cases k.klt ky with
    | true => exact ⟨[], (ky, vy) :: es, rfl, rfl⟩
    | false =>
      obtain ⟨es1, es2, rfl, h2⟩ := mset_split (k := k) (x := x) (es := es) fun z hz => h z (by simp [hz])
      exact ⟨(ky, vy) :: es1, es2, rfl, by simp [h2]⟩

theorem esRel_mem : ∀ {es : List (AV × AV)} {l : List MapEntry}, EsRel φ es l → ∀ e ∈ l, ∃ x ∈ es, RV φ x.1 e.key ∧ RV φ x.2 e.val
  | [], _, h, e, he => by simp only [EsRel] at h; subst h; simp at he
  | x :: es, _, h, e, he => by
    simp only [EsRel] at h
    obtain ⟨e', l', rfl, h1, h2, h3⟩ := h
    rcases List.mem_cons.1 he with rfl | he
    · exact ⟨x, by simp, h1, h2⟩
    · obtain ⟨y, hy, r⟩ := esRel_mem h3 e he
      exact ⟨y, by simp [hy], r⟩

theorem esRel_append : ∀ {es1 es2 : List (AV × AV)} {l1 l2 : List MapEntry}, EsRel φ es1 l1 → EsRel φ es2 l2 → EsRel φ (es1 ++ es2) (l1 ++ l2)
  | [], _, _, _, h1, h2 => by simp only [EsRel] at h1; subst h1; exact h2
  | x :: es1, _, _, _, h1, h2 => by
    simp only [EsRel] at h1
    obtain ⟨e, l, rfl, a, b, c⟩ := h1
    simp only [List.cons_append, EsRel]
    exact ⟨e, _, rfl, a, b, esRel_append c h2⟩

theorem esRel_split : ∀ {es1 es2 : List (AV × AV)} {l : List MapEntry}, EsRel φ (es1 ++ es2) l → ∃ l1 l2, l = l1 ++ l2 ∧ EsRel φ es1 l1 ∧ EsRel φ es2 l2
  | [], _, l, h => ⟨[], l, rfl, rfl, h⟩
  | x :: es1, _, _, h => by
    simp only [List.cons_append, EsRel] at h
    obtain ⟨e, l', rfl, a, b, c⟩ := h
    obtain ⟨l1, l2, rfl, d1, d2⟩ := esRel_split c
    exact ⟨e :: l1, l2, rfl, by simp only [EsRel]; exact ⟨e, l1, rfl, a, b, d1⟩, d2⟩

/-- The rest of a map's entries, beside the one that is k's. -/
theorem others_false {k v : AV} {es1 es2 : List (AV × AV)} (hp : (es1 ++ (k, v) :: es2).Pairwise fun a b => a.1.keq b.1 = some false) (h1 : ∀ x ∈ es1, k.keq x.1 = some false) : ∀ x ∈ es1 ++ es2, k.keq x.1 = some false := by
  intro x hx
  rcases List.mem_append.1 hx with hx | hx
  · exact h1 x hx
  · have := (List.pairwise_append.1 hp).2.1
    exact (List.pairwise_cons.1 this).1 x hx

open Classical in
theorem find_none_run {k : AV} {t : TypeId} {u : Value} {es : List (AV × AV)} {l L : List MapEntry} (hk : k.isKey (underOf P) (sizeOf P) t = true) (hu : RV φ k u) (hes : EsRel φ es l) (hpm : l.Perm L)
    (hq : mfind k es = some none) : (∀ w, (Instr.findKey t u L).run P w = .ok none w) := by
  intro w
  obtain ⟨d, hd⟩ : ∃ d, underOf P t = some d := by rcases isKey_cases hk with ⟨_, _, h, _⟩ | ⟨_, h, _⟩ | ⟨_, _, _, h, _⟩ <;> exact ⟨_, h⟩
  have hall : ∀ e ∈ L, (Instr.sameNow d u e.key = some false ∨ ((∃ n e, d = .array n e) ∧ ∀ w, (Op.equal t u e.key).run P w = .ok false w)) := by
    intro e he
    obtain ⟨x, hx, hx1, _⟩ := esRel_mem hes e (hpm.mem_iff.2 he)
    obtain ⟨d', hd', h1, h2⟩ := key_test hk hu hx1 (mfind_none hq x hx)
    rw [hd] at hd'
    obtain rfl := Option.some.inj hd'
    exact h1
  rw [run_find (p := fun _ => false) hd L w hall, findP_none _ _ _ (fun _ _ => rfl)]

open Classical in
theorem find_some_run {k v : AV} {t : TypeId} {u : Value} {es : List (AV × AV)} {l L : List MapEntry} (hk : k.isKey (underOf P) (sizeOf P) t = true) (hu : RV φ k u) (hes : EsRel φ es l) (hpm : l.Perm L)
    (hp : es.Pairwise fun a b => a.1.keq b.1 = some false) (hq : mfind k es = some (some v)) :
    ∃ es1 es2 l1 e l2 A C, es = es1 ++ (k, v) :: es2 ∧ l = l1 ++ e :: l2 ∧ EsRel φ es1 l1 ∧ EsRel φ es2 l2 ∧ e.key = u ∧ RV φ v e.val ∧ L = A ++ e :: C ∧ (l1 ++ l2).Perm (A ++ C) ∧
      (∀ w, (Instr.findKey t u L).run P w = .ok (some (A.length, e.val)) w) ∧ (∀ x ∈ es1, k.keq x.1 = some false) ∧ k.keq k = some true := by
  obtain ⟨es1, es2, rfl, h1, hkk⟩ := mfind_some hq
  obtain ⟨l1, l2', rfl, r1, r2⟩ := esRel_split hes
  simp only [EsRel] at r2
  obtain ⟨e, l2, rfl, r3, r4, r5⟩ := r2
  have hmem : e ∈ L := hpm.mem_iff.1 (by simp)
  obtain ⟨A, C, rfl⟩ := List.append_of_mem hmem
  have hrest : (l1 ++ l2).Perm (A ++ C) := (List.perm_cons e).1 (List.perm_middle.symm.trans (hpm.trans List.perm_middle))
  have hek : e.key = u := (key_same hk hu r3).symm
  have hoth := others_false hp h1
  obtain ⟨d, hd, _⟩ := key_test hk hu r3 hkk
  have hof : ∀ x ∈ A ++ C, (Instr.sameNow d u x.key = some false ∨ ((∃ n e, d = .array n e) ∧ ∀ w, (Op.equal t u x.key).run P w = .ok false w)) ∧ x.key ≠ u := by
    intro x hx
    obtain ⟨y, hy, hy1, _⟩ := esRel_mem (esRel_append r1 r5) x (hrest.mem_iff.2 hx)
    obtain ⟨d', hd', q1, q2⟩ := key_test hk hu hy1 (hoth y hy)
    rw [hd] at hd'
    obtain rfl := Option.some.inj hd'
    exact ⟨q1, fun e => by have := q2.2 e; simp at this⟩
  refine ⟨es1, es2, l1, e, l2, A, C, rfl, rfl, r1, r5, hek, r4, rfl, hrest, fun w => ?_, h1, hkk⟩
  have hall : ∀ x ∈ A ++ e :: C, Instr.sameNow d u x.key = some (decide (x.key = u)) ∨ ((∃ n e, d = .array n e) ∧ ∀ w, (Op.equal t u x.key).run P w = .ok (decide (x.key = u)) w) := by
    intro x hx
    by_cases hxe : x.key = u
    · have hd0 : decide (x.key = u) = true := by simp [hxe]
      rw [hd0]
      have hx' : RV φ k x.key := by rw [hxe]; exact hu
      obtain ⟨d', hd', q1, _⟩ := key_test hk hu hx' hkk
      rw [hd] at hd'
      obtain rfl := Option.some.inj hd'
      exact q1
    · have hd0 : decide (x.key = u) = false := by simp [hxe]
      rw [hd0]
      have hx' : x ∈ A ++ C := by
        rcases List.mem_append.1 hx with h | h
        · exact List.mem_append.2 (.inl h)
        · rcases List.mem_cons.1 h with rfl | h
          · exact absurd hek hxe
          · exact List.mem_append.2 (.inr h)
      exact (hof x hx').1
  rw [run_find (p := fun x => decide (x.key = u)) hd _ w hall, findP_some _ (by simp [hek]) C A 0 fun x hx => by
    have := (hof x (List.mem_append.2 (.inl hx))).2
    simp [this]]
  simp

theorem run_check {k : AV} {t : TypeId} {u : Value} (hk : k.isKey (underOf P) (sizeOf P) t = true) (hu : RV φ k u) (em : Bool) (w : World) : (Instr.checkKey em 10000 t u).run P w = .ok () w := by
  rcases isKey_cases hk with ⟨kd, n, hd, rfl⟩ | ⟨s, hd, rfl⟩ | ⟨e, a, b, hd, he, hs, rfl⟩
  · simp only [RV] at hu
    subst hu
    have : ∀ m, (Instr.checkKey em (m + 1) t (.int kd n)).run P w = .ok () w := fun m => by simp [Instr.checkKey, run_underlying_of hd w]
    exact this 9999
  · simp only [RV] at hu
    obtain ⟨b, rfl, _⟩ := hu
    have : ∀ m, (Instr.checkKey em (m + 1) t (.string b)).run P w = .ok () w := fun m => by simp [Instr.checkKey, run_underlying_of hd w]
    exact this 9999
  · rw [rv_pair hu]; exact check_pair hd he hs a b em 9998
end Go.AM

/- Maps that turn. -/
namespace Go.AM
open Go
variable {P : Program} {φ : Phi} {B : Tree ABlk} {H H' : Heap} {w : World} {bd : Nat}

theorem only_setObj (w : World) (n : Nat) (o : Obj) : Only n w { w with heap := w.heap.setIfInBounds n o } := by
  refine ⟨rfl, rfl, rfl, by simp, fun m hm => ?_⟩
  rw [Array.getElem?_setIfInBounds_ne (fun e => hm e.symm)]
theorem setObj_get {w : World} {n : Nat} {o o' : Obj} (h : w.heap[n]? = some o) : ({ w with heap := w.heap.setIfInBounds n o' } : World).heap[n]? = some o' := by
  have : n < w.heap.size := (Array.getElem?_eq_some_iff.1 h).1
  show (w.heap.setIfInBounds n o')[n]? = some o'
  rw [Array.getElem?_setIfInBounds_self, if_pos this]

theorem Rel.turnMap {φ' : Phi} {w' : World} {b : Pos} {n ver ver' : Nat} {es es' : List (AV × AV)} (h : Rel φ B H w) (hn : φ.obj b = some n) (hb : blk B H b = some (.map ver es)) (hs : Sub φ φ') (hc : φ'.cell = φ.cell) (ho : φ'.obj = φ.obj)
    (hnext : H'.next = H.next) (hblks : ∀ b', b' ≠ b → blk B H' b' = blk B H b') (hbb : blk B H' b = some (.map ver' es')) (hver : ver < ver' ∨ (ver' = ver ∧ es' = es ∧ w'.heap[n]? = w.heap[n]?)) (honly : Only n w w') (hat : MapAt φ' w' n es')
    (hst : ∀ {s m}, φ'.st s = some m → s < H'.stamps)
    (hlast : ∀ {s b k}, H'.last = some (s, b, k) → ∀ {n m}, φ'.obj b = some n → φ'.st s = some m → ∃ entries clock, w'.heap[n]? = some (.map entries clock) ∧
      ∃ e ∈ entries.toList, (e.born : Int) = m ∧ RV φ' k e.key) (hfar : Far φ'.st) :
    Rel φ' B H' w' ∧ Step bd φ H.next.toNat w φ' w' := by
  have him : ∀ m, φ'.Im m ↔ φ.Im m := fun m => by unfold Phi.Im; rw [hc, ho]
  have hhas : ∀ m, φ'.Has m ↔ φ.Has m := fun m => by unfold Phi.Has; rw [hc, ho]
  refine ⟨?_, ⟨hs, honly.os, honly.tape, honly.output, Nat.le_of_eq honly.size.symm, fun m _ hi => honly.other m (fun e => hi (e ▸ .inr ⟨b, hn⟩)), fun m hm _ => (him m).1 hm, fun m hm => .inl ((hhas m).1 hm)⟩⟩
  refine h.extend b hs (by rw [hnext]; exact Nat.le_refl _) hblks (fun b' g y _ hy => by rw [hc] at hy; exact hy) (fun b' m _ hy => by rw [ho] at hy; exact hy)
    (fun m _ _ hm => honly.other m (fun e => hm (e ▸ hn))) (Nat.le_of_eq honly.size.symm) ?_ ?_ ?_ ?_ ?_ ?_ (by rw [hnext]; exact h.has (.inr ⟨n, hn⟩)) hst hlast hfar
  · rw [hbb]
    intro m hm
    rw [ho, hn] at hm
    obtain rfl := Option.some.inj hm
    exact hat
  · intro nm hnm ver0 es0 hb0
    rw [hbb] at hb0
    simp only [Option.some.injEq, ABlk.map.injEq] at hb0
    obtain ⟨rfl, rfl⟩ := hb0
    rw [hn] at hnm
    obtain rfl := Option.some.inj hnm
    rcases hver with hlt | ⟨rfl, rfl, hsame⟩
    · exact .inr ⟨ver, es, hb, hlt⟩
    · exact .inl ⟨hb, hsame⟩
  · intro m hm
    rw [hc, ho] at hm
    refine ⟨?_, hm.elim .inl (fun x => .inr (.inl x))⟩
    rw [honly.size]
    exact h.im (hm.elim (fun ⟨g, L, N, hg⟩ => .inl ⟨b, g, L, N, hg⟩) (fun x => .inr ⟨b, x⟩))
  · intro g m L N h1 h2
    rw [hc] at h1
    rw [ho] at h2
    exact h.apart h1 h2
  · intro g g' m m' L L' N N' h1 h2
    rw [hc] at h1 h2
    exact h.mono h1 h2
  · intro g m L N h1
    rw [hc] at h1
    exact h.LN h1

theorem Rel.setMap {w' : World} {b : Pos} {n ver : Nat} {es es' : List (AV × AV)} (h : Rel φ B H w) (hn : φ.obj b = some n) (hb : blk B H b = some (.map ver es)) (honly : Only n w w') (hat : MapAt φ w' n es') :
    Rel φ B (AM.setMap H b (ver + 1) es') w' ∧ Step bd φ H.next.toNat w φ w' :=
  h.turnMap hn hb (Sub.refl φ) rfl rfl rfl (fun b' hne => by simp only [blk, AM.setMap, onHeap]; rw [Tree.get_set_ne _ _ _ _ hne]) (by simp [blk, AM.setMap, onHeap, Tree.get_set_same]) (.inl (Nat.lt_succ_self _)) honly hat
    (fun hm => h.stamps hm) (fun hl => by simp [AM.setMap, onHeap] at hl) h.far

theorem mapKey_of {t : TypeId} {k : AV} (h : mapKey P t k = true) : ∃ key elem, underOf P t = some (.map key elem) ∧ k.isKey (underOf P) (sizeOf P) key = true := by
  unfold mapKey at h
  split at h
  · exact ⟨_, _, by assumption, h⟩
  · simp at h
theorem mapZero_of {t key elem : TypeId} {z : AV} (hd : underOf P t = some (.map key elem)) (h : mapZero P t = some z) : ∃ u, (∀ w, (zeroValue elem).run P w = .ok u w) ∧ RV φ z u := by
  unfold mapZero at h
  rw [hd] at h
  obtain ⟨u, h1, rfl, _⟩ := zero_of h
  exact ⟨u, h1, rv_ofValue φ 6 u⟩

theorem commaOk_rv {v : AV} {u : Value} (h : RV φ v u) (ok b : Bool) : RV φ (commaOk ok v b) (if ok then .tuple #[u, .bool b] else u) := by
  cases ok with
  | false => exact h
  | true =>
    simp only [commaOk, if_true, RV, RVs]
    exact ⟨[u, .bool b], rfl, u, _, rfl, h, _, _, rfl, rfl, rfl⟩

theorem lookup_sound (h : Rel φ B H w) {t : TypeId} {m k v : AV} {um uk : Value} {ok : Bool} (hm : RV φ m um) (hk : RV φ k uk) (hr : doLookup P B t m k ok H = .ok v H') : RanV P (Instr.lookup t um uk ok) bd φ B H w v H' := by
  simp only [doLookup] at hr
  cases hkey : mapKey P t k with
  | false => rw [hkey] at hr; simp at hr
  | true =>
    rw [hkey] at hr
    simp only at hr
    obtain ⟨key, elem, hd, hik⟩ := mapKey_of hkey
    cases hz : mapZero P t with
    | none => rw [hz] at hr; simp at hr
    | some z =>
      rw [hz] at hr
      obtain ⟨zu, hzr, hzv⟩ := mapZero_of (φ := φ) hd hz
      cases m <;> try (simp at hr; done)
      case nilmap =>
        simp only [R2.ok.injEq] at hr
        obtain ⟨rfl, rfl⟩ := hr
        simp only [RV] at hm
        subst hm
        have hf : (Instr.findKey key uk []).run P w = .ok none w := find_none_run (es := []) (l := []) hik hk rfl (List.Perm.refl _) rfl w
        refine RanV.same h (u := if ok then .tuple #[zu, .bool false] else zu) ?_ (commaOk_rv hzv ok false)
        simp [Instr.lookup, run_underlying_of hd w, run_check hik hk, hf, hzr w]
      case map b =>
        simp only [RV] at hm
        obtain ⟨n, hn, rfl⟩ := hm
        simp only at hr
        obtain ⟨ver, es, hb, hr⟩ := getMap_of hr
        have hat := h.blks b
        rw [hb] at hat
        obtain ⟨en, cl, l, c1, c2, c3, c4, c5, c6⟩ := hat n hn
        cases hq : mfind k es with
        | none => rw [hq] at hr; simp [lookIn] at hr
        | some r =>
          rw [hq] at hr
          cases r with
          | none =>
            simp only [lookIn, R2.ok.injEq] at hr
            obtain ⟨rfl, rfl⟩ := hr
            have hf := find_none_run hik hk c3 c2 hq w
            refine RanV.same h (u := if ok then .tuple #[zu, .bool false] else zu) ?_ (commaOk_rv hzv ok false)
            simp [Instr.lookup, run_underlying_of hd w, run_getMap c1, run_check hik hk, hf, hzr w]
          | some x =>
            simp only [lookIn, R2.ok.injEq] at hr
            obtain ⟨rfl, rfl⟩ := hr
            obtain ⟨es1, es2, l1, e, l2, A, C, q1, q2, q3, q4, q5, q6, q7, q8, q9, _⟩ := find_some_run hik hk c3 c2 c6 hq
            refine RanV.same h (u := if ok then .tuple #[e.val, .bool true] else e.val) ?_ (commaOk_rv q6 ok true)
            simp [Instr.lookup, run_underlying_of hd w, run_getMap c1, run_check hik hk, q9 w]
end Go.AM

/- Maps that are written. -/
namespace Go.AM
open Go
variable {P : Program} {φ : Phi} {B : Tree ABlk} {H H' : Heap} {w : World} {bd : Nat}

theorem keq_false_ne {k k' : AV} {u : Value} (h : k.keq k' = some false) (h1 : RV φ k u) (h2 : RV φ k' u) : False := by
  unfold AV.keq at h
  split at h
  · split at h
    · rename_i e
      simp only [Option.some.injEq, decide_eq_false_iff_not] at h
      simp only [RV] at h1 h2
      rw [h1] at h2
      simp only [Value.int.injEq] at h2
      exact h h2.2
    · simp at h
  · simp only [Option.some.injEq] at h
    simp only [RV] at h1 h2
    obtain ⟨b, rfl, e1⟩ := h1
    obtain ⟨b', e, e2⟩ := h2
    simp only [Value.string.injEq] at e
    subst e
    rw [← e1, ← e2] at h
    simp at h
  · simp only [Option.some.injEq] at h
    have e1 := rv_pair h1
    have e2 := rv_pair h2
    rw [e1] at e2
    simp only [Value.agg.injEq, Array.mk.injEq, List.cons.injEq, Value.int.injEq, true_and, and_true] at e2
    simp [e2.1, e2.2] at h
  · simp at h

theorem keq_symm {k k' : AV} {t : TypeId} (hk : k.isKey (underOf P) (sizeOf P) t = true) (h : k.keq k' = some false) : k'.keq k = some false := by
  rcases isKey_cases hk with ⟨kd, n, hd, rfl⟩ | ⟨s, hd, rfl⟩ | ⟨e, x, y, hd, he, hs, rfl⟩
  · cases k' <;> simp only [AV.keq] at h <;> try (simp at h; done)
    case int kd' m =>
      split at h
      · rename_i e
        subst e
        simp only [Option.some.injEq, decide_eq_false_iff_not] at h
        simp only [AV.keq, if_true, Option.some.injEq, decide_eq_false_iff_not]
        exact fun e => h e.symm
      · simp at h
  · cases k' <;> simp only [AV.keq] at h <;> try (simp at h; done)
    case str s' =>
      simp only [Option.some.injEq] at h
      simp only [AV.keq, Option.some.injEq]
      cases hb : (s' == s) with
      | false => rfl
      | true => have := eq_of_beq hb; subst this; simp at h
  · obtain ⟨m, m', rfl, h'⟩ := keq_pair h
    simp only [AV.keq, Option.some.injEq]
    cases hb : (decide (m = x) && decide (m' = y)) with
    | false => rfl
    | true =>
      simp only [Bool.and_eq_true, decide_eq_true_eq] at hb
      simp [hb.1, hb.2] at h'

theorem stays {k : AV} {t : TypeId} {u : Value} (hk : k.isKey (underOf P) (sizeOf P) t = true) (hu : RV φ k u) (w : World) : (Instr.keyThatStays u u).run P w = .ok u w := by
  have : Instr.sameBits 10000 u u = true := by
    rcases isKey_cases hk with ⟨kd, n, hd, rfl⟩ | ⟨s, hd, rfl⟩ | ⟨e, x, y, hd, he, hs, rfl⟩
    · simp only [RV] at hu; subst hu; simp [Instr.sameBits]
    · simp only [RV] at hu
      obtain ⟨b, rfl, _⟩ := hu
      simp only [Instr.sameBits]
      exact bytes_same.2 rfl
    · rw [rv_pair hu]
      have q : ∀ m (a : Int), Instr.sameBits m (.int .i64 a) (.int .i64 a) = true := fun m a => by cases m <;> simp [Instr.sameBits]
      show Instr.sameBits (9999 + 1) _ _ = true
      unfold Instr.sameBits
      simp [q]
  simp only [Instr.keyThatStays, this, if_true, Sem.run_pure]

theorem modify_at {f : MapEntry → MapEntry} {e : MapEntry} {C : List MapEntry} : ∀ (A : List MapEntry), (A ++ e :: C).modify A.length f = A ++ f e :: C
  | [] => by simp
  | a :: A => by simp [modify_at A]

theorem arr_modify {en : Array MapEntry} {f : MapEntry → MapEntry} {e : MapEntry} {A C : List MapEntry} (h : en.toList = A ++ e :: C) : (en.modify A.length f).toList = A ++ f e :: C := by
  rw [Array.toList_modify, h, modify_at]

theorem arr_get {en : Array MapEntry} {e : MapEntry} {A C : List MapEntry} (h : en.toList = A ++ e :: C) : en[A.length]? = some e := by
  rw [← Array.getElem?_toList, h]; simp

/-- An entry's value turns. -/
theorem mapAt_rep {w' : World} {n cl : Nat} {en' : Array MapEntry} {es1 es2 : List (AV × AV)} {k v x : AV} {l1 l2 A C : List MapEntry} {e : MapEntry} {u y : Value}
    (hw : w'.heap[n]? = some (.map en' cl)) (hen : en'.toList = A ++ { e with key := u, val := y } :: C) (r1 : EsRel φ es1 l1) (r2 : EsRel φ es2 l2) (hpm : (l1 ++ l2).Perm (A ++ C))
    (hk : RV φ k u) (hx : RV φ x y) (hb : ∀ z ∈ l1 ++ e :: l2, z.born < cl) (hnd : ((l1 ++ e :: l2).map (·.born)).Nodup) (hp : (es1 ++ (k, v) :: es2).Pairwise fun a b => a.1.keq b.1 = some false) : MapAt φ w' n (es1 ++ (k, x) :: es2) := by
  refine ⟨en', cl, l1 ++ { e with key := u, val := y } :: l2, hw, ?_, esRel_append r1 (by simp only [EsRel]; exact ⟨_, _, rfl, hk, hx, r2⟩), ?_, ?_, ?_⟩
  · rw [hen]
    exact List.perm_middle.trans ((hpm.cons _).trans List.perm_middle.symm)
  · intro z hz
    rcases List.mem_append.1 hz with hz | hz
    · exact hb z (by simp [hz])
    · rcases List.mem_cons.1 hz with rfl | hz
      · exact hb e (by simp)
      · exact hb z (by simp [hz])
  · simpa using hnd
  · simpa [List.pairwise_append] using hp

/-- A new entry. -/
theorem mapAt_ins {w' : World} {n cl : Nat} {en : Array MapEntry} {es1 es2 : List (AV × AV)} {k x : AV} {t : TypeId} {l : List MapEntry} {u y : Value}
    (hw : w'.heap[n]? = some (.map (en.push { key := u, val := y, born := cl }) (cl + 1))) (r : EsRel φ (es1 ++ es2) l) (hpm : l.Perm en.toList) (hik : k.isKey (underOf P) (sizeOf P) t = true)
    (hk : RV φ k u) (hx : RV φ x y) (hb : ∀ z ∈ l, z.born < cl) (hnd : (l.map (·.born)).Nodup) (hp : (es1 ++ es2).Pairwise fun a b => a.1.keq b.1 = some false) (hq : ∀ z ∈ es1 ++ es2, k.keq z.1 = some false) : MapAt φ w' n (es1 ++ (k, x) :: es2) := by
  obtain ⟨l1, l2, rfl, r1, r2⟩ := esRel_split r
  refine ⟨_, cl + 1, l1 ++ { key := u, val := y, born := cl } :: l2, hw, ?_, esRel_append r1 (by simp only [EsRel]; exact ⟨_, _, rfl, hk, hx, r2⟩), ?_, ?_, ?_⟩
  · rw [Array.toList_push]
    exact List.perm_middle.trans ((hpm.cons _).trans (List.perm_append_singleton _ _).symm)
  · intro z hz
    rcases List.mem_append.1 hz with hz | hz
    · exact Nat.lt_succ_of_lt (hb z (by simp [hz]))
    · rcases List.mem_cons.1 hz with rfl | hz
      · exact Nat.lt_succ_self _
      · exact Nat.lt_succ_of_lt (hb z (by simp [hz]))
  · have hperm : ((l1 ++ { key := u, val := y, born := cl } :: l2).map (·.born)).Perm (cl :: ((l1 ++ l2).map (·.born))) := (List.perm_middle.map _)
    rw [hperm.nodup_iff, List.nodup_cons]
    refine ⟨fun hm => ?_, hnd⟩
    obtain ⟨z, hz, e⟩ := List.mem_map.1 hm
    have := hb z hz
    omega
  · rw [List.pairwise_append] at hp ⊢
    obtain ⟨h1, h2, h3⟩ := hp
    refine ⟨h1, List.pairwise_cons.2 ⟨fun z hz => hq z (List.mem_append.2 (.inr hz)), h2⟩, fun a ha b hb => ?_⟩
    rcases List.mem_cons.1 hb with rfl | hb
    · exact keq_symm hik (hq a (List.mem_append.2 (.inl ha)))
    · exact h3 a ha b hb
end Go.AM

/- Maps: the operations. -/
namespace Go.AM
open Go
variable {P : Program} {φ : Phi} {B : Tree ABlk} {H H' : Heap} {w : World} {bd : Nat}

theorem mapUpdate_sound (h : Rel φ B H w) {t : TypeId} {m k x v : AV} {um uk ux : Value} (hm : RV φ m um) (hk : RV φ k uk) (hx : RV φ x ux) (hr : doMapUpdate P B t m k x H = .ok v H') :
    ∃ w', (Instr.mapUpdate t um uk ux).run P w = .ok () w' ∧ v = .undef ∧ Rel φ B H' w' ∧ Step bd φ H.next.toNat w φ w' ∧ H'.next = H.next := by
  simp only [doMapUpdate] at hr
  cases hkey : mapKey P t k with
  | false => rw [hkey] at hr; simp at hr
  | true =>
    rw [hkey] at hr
    simp only at hr
    obtain ⟨key, elem, hd, hik⟩ := mapKey_of hkey
    cases m <;> try (simp at hr; done)
    case map b =>
      simp only [RV] at hm
      obtain ⟨n, hn, rfl⟩ := hm
      simp only at hr
      obtain ⟨ver, es, hb, hr⟩ := getMap_of hr
      have hat := h.blks b
      rw [hb] at hat
      obtain ⟨en, cl, l, c1, c2, c3, c4, c5, c6⟩ := hat n hn
      cases hq : mfind k es with
      | none => rw [hq] at hr; simp at hr
      | some r =>
        rw [hq] at hr
        cases r with
        | none =>
          simp only [R2.ok.injEq] at hr
          obtain ⟨rfl, rfl⟩ := hr
          have hf := find_none_run hik hk c3 c2 hq
          have hq' := mfind_none hq
          obtain ⟨es1, es2, rfl, hms⟩ := mset_split (k := k) (x := x) hq'
          rw [hms]
          have hg := setObj_get (o' := .map (en.push { key := uk, val := ux, born := cl }) (cl + 1)) c1
          obtain ⟨a, b'⟩ := h.setMap (bd := bd) hn hb (only_setObj w n (.map (en.push { key := uk, val := ux, born := cl }) (cl + 1))) (mapAt_ins hg c3 c2 hik hk hx c4 c5 c6 hq')
          refine ⟨_, ?_, rfl, a, b', rfl⟩
          simp [Instr.mapUpdate, run_underlying_of hd w, run_getMap c1, run_check hik hk, hf w, run_setMap _ c1]
        | some y =>
          simp only [R2.ok.injEq] at hr
          obtain ⟨rfl, rfl⟩ := hr
          obtain ⟨es1, es2, l1, e, l2, A, C, rfl, rfl, q3, q4, q5, q6, q7, q8, q9, q10, q11⟩ := find_some_run hik hk c3 c2 c6 hq
          rw [mrep_split q11 q10]
          have hg := setObj_get (o' := .map (en.modify A.length fun e => { e with key := uk, val := ux }) cl) c1
          obtain ⟨a, b'⟩ := h.setMap (bd := bd) hn hb (only_setObj w n (.map (en.modify A.length fun e => { e with key := uk, val := ux }) cl)) (mapAt_rep hg (arr_modify q7) q3 q4 q8 hk hx c4 c5 c6)
          refine ⟨_, ?_, rfl, a, b', rfl⟩
          have hst : (Instr.keyThatStays e.key uk).run P w = .ok uk w := by rw [q5]; exact stays hik hk w
          simp [Instr.mapUpdate, run_underlying_of hd w, run_getMap c1, run_check hik hk, q9 w, arr_get q7, hst, run_setMap _ c1]

theorem delete_sound (h : Rel φ B H w) {ts : Array TypeId} {ty t : TypeId} {m k v : AV} {um uk : Value} (h0 : ts[0]? = some t) (hm : RV φ m um) (hk : RV φ k uk) (hr : doDelete P B t m k H = .ok v H') :
    RanV P (Builtin.delete_ ts ty #[um, uk]) bd φ B H w v H' := by
  simp only [doDelete] at hr
  cases hkey : mapKey P t k with
  | false => rw [hkey] at hr; simp at hr
  | true =>
    rw [hkey] at hr
    simp only at hr
    obtain ⟨key, elem, hd, hik⟩ := mapKey_of hkey
    cases m <;> try (simp at hr; done)
    case map b =>
      simp only [RV] at hm
      obtain ⟨n, hn, rfl⟩ := hm
      simp only at hr
      obtain ⟨ver, es, hb, hr⟩ := getMap_of hr
      have hat := h.blks b
      rw [hb] at hat
      obtain ⟨en, cl, l, c1, c2, c3, c4, c5, c6⟩ := hat n hn
      cases hq : mfind k es with
      | none => rw [hq] at hr; simp at hr
      | some r =>
        rw [hq] at hr
        cases r with
        | none =>
          simp only [R2.ok.injEq] at hr
          obtain ⟨rfl, rfl⟩ := hr
          have hf := find_none_run hik hk c3 c2 hq
          have hlt : n < w.heap.size := (Array.getElem?_eq_some_iff.1 c1).1
          have hsame : w.heap.setIfInBounds n (.map en cl) = w.heap := by
            apply Array.ext_getElem?
            intro i
            by_cases e : i = n
            · subst e; rw [Array.getElem?_setIfInBounds_self, if_pos hlt, c1]
            · rw [Array.getElem?_setIfInBounds_ne (fun e' => e e'.symm)]
          refine RanV.same h (u := .tuple #[]) ?_ (by simp [RV, RVs])
          simp [Builtin.delete_, h0, run_underlying_of hd w, run_getMap c1, run_check hik hk, hf w, run_setMap _ c1, hsame]
        | some y =>
          simp only [R2.ok.injEq] at hr
          obtain ⟨rfl, rfl⟩ := hr
          obtain ⟨es1, es2, l1, e, l2, A, C, rfl, rfl, q3, q4, q5, q6, q7, q8, q9, q10, q11⟩ := find_some_run hik hk c3 c2 c6 hq
          rw [mdel_split q11 q10]
          have hg := setObj_get (o' := .map (en.eraseIdxIfInBounds A.length) cl) c1
          have her : (en.eraseIdxIfInBounds A.length).toList = A ++ C := by
            have hlt : A.length < en.size := by rw [← Array.length_toList, q7]; simp
            simp only [Array.eraseIdxIfInBounds, hlt, dif_pos, Array.toList_eraseIdx, q7]
            rw [List.eraseIdx_append_of_length_le (Nat.le_refl _)]
            simp
          have hmap : MapAt φ { w with heap := w.heap.setIfInBounds n (.map (en.eraseIdxIfInBounds A.length) cl) } n (es1 ++ es2) := by
            refine ⟨_, cl, l1 ++ l2, hg, by rw [her]; exact q8, esRel_append q3 q4, fun z hz => c4 z ?_, ?_, ?_⟩
            · rcases List.mem_append.1 hz with hz | hz <;> simp [hz]
            · have hsub : (l1 ++ l2).Sublist (l1 ++ e :: l2) := List.Sublist.append (List.Sublist.refl _) (List.sublist_cons_self _ _)
              exact (hsub.map _).nodup c5
            · have hsub : (es1 ++ es2).Sublist (es1 ++ (k, y) :: es2) := List.Sublist.append (List.Sublist.refl _) (List.sublist_cons_self _ _)
              exact c6.sublist hsub
          obtain ⟨a, b'⟩ := h.setMap (bd := bd) hn hb (only_setObj w n (.map (en.eraseIdxIfInBounds A.length) cl)) hmap
          refine ⟨φ, .tuple #[], _, ?_, by simp [RV, RVs], a, b', Nat.le_refl _⟩
          simp [Builtin.delete_, h0, run_underlying_of hd w, run_getMap c1, run_check hik hk, q9 w, run_setMap _ c1]
end Go.AM

/- Maps: an entry that is held. -/
namespace Go.AM
open Go
variable {P : Program} {φ : Phi} {B : Tree ABlk} {H H' : Heap} {w : World} {bd : Nat}

def Phi.withStamp (φ : Phi) (s m : Nat) : Phi := { φ with st := fun s' => if s' = s then some (m : Int) else φ.st s' }

theorem Rel.st_new (h : Rel φ B H w) : φ.st H.stamps = none := by
  cases hx : φ.st H.stamps with
  | none => rfl
  | some y => exact absurd (h.stamps hx) (Nat.lt_irrefl _)

theorem sub_withStamp (h : Rel φ B H w) (m : Nat) : Sub φ (φ.withStamp H.stamps m) := by
  refine ⟨fun hx => hx, fun hx => hx, fun {s n} hx => ?_⟩
  simp only [Phi.withStamp]
  by_cases e : s = H.stamps
  · rw [e, h.st_new] at hx; simp at hx
  · rw [if_neg e]; exact hx

theorem MapAt.sub {φ φ' : Phi} (h : Sub φ φ') {w : World} {n : Nat} {es : List (AV × AV)} (r : MapAt φ w n es) : MapAt φ' w n es := r.mono h rfl

theorem far_withStamp (h : Rel φ B H w) (h4 : 400 ≤ H.stamps) (m : Nat) : Far (φ.withStamp H.stamps m).st := by
  have heq : ∀ {s}, s < 400 → (φ.withStamp H.stamps m).st s = φ.st s := by
    intro s hs
    simp only [Phi.withStamp]
    rw [if_neg (by omega)]
  refine ⟨fun {s n} hx hs => ?_, fun {s n} hx hs hs' => ?_, fun {op s s' c n n'} hc hx hx' => ?_⟩
  · rw [heq (by omega)] at hx; exact h.far.one hx hs
  · rw [heq (by omega)] at hx; exact h.far.zero hx hs hs'
  · obtain ⟨q1, q2, q3, _⟩ := symOp_of hc
    rw [heq (by omega)] at hx hx' ⊢
    exact h.far.sym hc hx hx'

/-- An entry is held: of which map, and by which stamp. -/
theorem entryAt_rel {w' : World} {H1 : Heap} {b : Pos} {n ver ver' born : Nat} {es es' : List (AV × AV)} {k : AV} (h : Rel φ B H w) (h4 : 400 ≤ H.stamps) (hn : φ.obj b = some n) (hb : blk B H b = some (.map ver es))
    (hnext : H1.next = H.next) (hst1 : H1.stamps = H.stamps) (hblks : ∀ b', b' ≠ b → blk B H1 b' = blk B H b') (hbb : blk B H1 b = some (.map ver' es')) (hver : ver < ver' ∨ (ver' = ver ∧ es' = es ∧ w'.heap[n]? = w.heap[n]?)) (honly : Only n w w')
    (hat : MapAt φ w' n es') (hent : ∃ entries clock, w'.heap[n]? = some (.map entries clock) ∧ ∃ e ∈ entries.toList, e.born = born ∧ RV φ k e.key) :
    Rel (φ.withStamp H.stamps born) B (entryAt H1 b k) w' ∧ Step bd φ H.next.toNat w (φ.withStamp H.stamps born) w' := by
  have hs := sub_withStamp h born
  refine h.turnMap (φ' := φ.withStamp H.stamps born) (H' := entryAt H1 b k) hn hb hs rfl rfl hnext hblks hbb hver honly (hat.sub hs) (fun {s m} hm => ?_) (fun {s b' k'} hl n' m hn' hm => ?_) (far_withStamp h h4 born)
  · simp only [entryAt, onHeap, hst1]
    simp only [Phi.withStamp] at hm
    by_cases e : s = H.stamps
    · omega
    · rw [if_neg e] at hm
      have := h.stamps hm
      omega
  · simp only [entryAt, onHeap, Option.some.injEq, Prod.mk.injEq, hst1] at hl
    obtain ⟨rfl, rfl, rfl⟩ := hl
    have hn' : φ.obj b = some n' := hn'
    rw [hn] at hn'
    obtain rfl := Option.some.inj hn'
    simp only [Phi.withStamp, if_true, Option.some.injEq] at hm
    subst hm
    obtain ⟨en, cl, e1, e, e2, e3, e4⟩ := hent
    exact ⟨en, cl, e1, e, e2, by rw [e3], RV.mono hs e4⟩

theorem mapEntry_sound (h : Rel φ B H w) {t : TypeId} {m k v : AV} {um uk : Value} (hm : RV φ m um) (hk : RV φ k uk) (hr : doMapEntry P B t m k H = .ok v H') : RanV P (Instr.mapEntry t um uk) bd φ B H w v H' := by
  simp only [doMapEntry] at hr
  cases h4b : Nat.ble 400 H.stamps with
  | false => rw [h4b] at hr; simp at hr
  | true =>
  rw [h4b] at hr
  simp only at hr
  have h4 := Nat.le_of_ble_eq_true h4b
  cases hkey : mapKey P t k with
  | false => rw [hkey] at hr; simp at hr
  | true =>
    rw [hkey] at hr
    simp only at hr
    obtain ⟨key, elem, hd, hik⟩ := mapKey_of hkey
    cases hz : mapZero P t with
    | none => rw [hz] at hr; simp at hr
    | some z =>
      rw [hz] at hr
      obtain ⟨zu, hzr, hzv⟩ := mapZero_of (φ := φ) hd hz
      cases m <;> try (simp at hr; done)
      case map b =>
        simp only [RV] at hm
        obtain ⟨n, hn, rfl⟩ := hm
        simp only at hr
        obtain ⟨ver, es, hb, hr⟩ := getMap_of hr
        have hat := h.blks b
        rw [hb] at hat
        obtain ⟨en, cl, l, c1, c2, c3, c4, c5, c6⟩ := hat n hn
        have hstamp : ∀ born : Nat, RV (φ.withStamp H.stamps born) (.stamp H.stamps) (goInt born) := fun born => by
          simp only [RV]; exact ⟨born, by simp [Phi.withStamp], rfl⟩
        have htup : ∀ (born : Nat) {a : AV} {u : Value}, RV φ a u → RV (φ.withStamp H.stamps born) (.tuple [a, .stamp H.stamps]) (.tuple #[u, goInt born]) := fun born a u ha => by
          simp only [RV, RVs]
          exact ⟨[u, goInt born], rfl, u, _, rfl, RV.mono (sub_withStamp h born) ha, _, _, rfl, hstamp born, rfl⟩
        cases hq : mfind k es with
        | none => rw [hq] at hr; simp at hr
        | some r =>
          rw [hq] at hr
          cases r with
          | none =>
            simp only [R2.ok.injEq] at hr
            obtain ⟨rfl, rfl⟩ := hr
            have hf := find_none_run hik hk c3 c2 hq
            have hq' := mfind_none hq
            obtain ⟨es1, es2, rfl, hms⟩ := mset_split (k := k) (x := z) hq'
            rw [hms]
            have hg := setObj_get (o' := .map (en.push { key := uk, val := zu, born := cl }) (cl + 1)) c1
            obtain ⟨a, b'⟩ := entryAt_rel (bd := bd) (k := k) (born := cl) (H1 := setMap H b (ver + 1) (es1 ++ (k, z) :: es2)) h h4 hn hb rfl rfl (fun b' hne => by simp only [blk, AM.setMap, onHeap]; rw [Tree.get_set_ne _ _ _ _ hne]) (by simp [blk, AM.setMap, onHeap, Tree.get_set_same]) (.inl (Nat.lt_succ_self _))
              (only_setObj w n (.map (en.push { key := uk, val := zu, born := cl }) (cl + 1))) (mapAt_ins hg c3 c2 hik hk hzv c4 c5 c6 hq') ⟨_, _, hg, ⟨uk, zu, cl⟩, by simp, rfl, hk⟩
            refine ⟨_, .tuple #[zu, goInt cl], _, ?_, htup cl hzv, a, b', Nat.le_refl _⟩
            simp [Instr.mapEntry, run_underlying_of hd w, run_getMap c1, run_check hik hk, hf w, run_setMap _ c1, hzr]
          | some y =>
            simp only [R2.ok.injEq] at hr
            obtain ⟨rfl, rfl⟩ := hr
            obtain ⟨es1, es2, l1, e, l2, A, C, rfl, rfl, q3, q4, q5, q6, q7, q8, q9, q10, q11⟩ := find_some_run hik hk c3 c2 c6 hq
            have hst : (Instr.keyThatStays e.key uk).run P w = .ok uk w := by rw [q5]; exact stays hik hk w
            have hmod : en.modify A.length (fun e => { e with key := uk }) = en := by
              apply Array.ext'
              rw [arr_modify q7, q7]
              rw [← q5]
            have hsame : w.heap.setIfInBounds n (.map (en.modify A.length fun e => { e with key := uk }) cl) = w.heap := by
              rw [hmod]
              have hlt : n < w.heap.size := (Array.getElem?_eq_some_iff.1 c1).1
              apply Array.ext_getElem?
              intro i
              by_cases e : i = n
              · subst e; rw [Array.getElem?_setIfInBounds_self, if_pos hlt, c1]
              · rw [Array.getElem?_setIfInBounds_ne (fun e' => e e'.symm)]
            obtain ⟨a, b'⟩ := entryAt_rel (bd := bd) (k := k) (born := e.born) (H1 := H) (w' := w) h h4 hn hb rfl rfl (fun _ _ => rfl) hb (.inr ⟨rfl, rfl, rfl⟩) (Only.refl n w) (hat n hn) ⟨en, cl, c1, e, by rw [q7]; simp, rfl, by rw [q5]; exact hk⟩
            refine ⟨_, .tuple #[e.val, goInt e.born], w, ?_, htup e.born q6, a, b', Nat.le_refl _⟩
            simp [Instr.mapEntry, run_underlying_of hd w, run_getMap c1, run_check hik hk, q9 w, arr_get q7, hst, run_setMap _ c1, hsame]

/-- Of the entries, the one whose key is k's. -/
theorem the_entry {n : Nat} {es : List (AV × AV)} {k v : AV} {en : Array MapEntry} {cl : Nat} {l : List MapEntry} (c2 : l.Perm en.toList) (c3 : EsRel φ es l) (c5 : (l.map (·.born)).Nodup)
    (c6 : es.Pairwise fun a b => a.1.keq b.1 = some false) (hq : mfind k es = some (some v)) {e : MapEntry} (he : e ∈ en.toList) (hk : RV φ k e.key) :
    ∃ es1 es2 l1 l2 A C, es = es1 ++ (k, v) :: es2 ∧ l = l1 ++ e :: l2 ∧ EsRel φ es1 l1 ∧ EsRel φ es2 l2 ∧ RV φ v e.val ∧ en.toList = A ++ e :: C ∧ (l1 ++ l2).Perm (A ++ C) ∧
      (∀ x ∈ A, x.born ≠ e.born) ∧ (∀ x ∈ es1, k.keq x.1 = some false) ∧ k.keq k = some true := by
  obtain ⟨es1, es2, rfl, h1, hkk⟩ := mfind_some hq
  obtain ⟨l1, l2', rfl, r1, r2⟩ := esRel_split c3
  simp only [EsRel] at r2
  obtain ⟨e2, l2, rfl, r3, r4, r5⟩ := r2
  have hoth := others_false c6 h1
  have hel := c2.mem_iff.2 he
  have hee : e = e2 := by
    rcases List.mem_append.1 hel with hm | hm
    · obtain ⟨x, hx, hx1, _⟩ := esRel_mem r1 e hm
      exact (keq_false_ne (hoth x (List.mem_append.2 (.inl hx))) hk hx1).elim
    · rcases List.mem_cons.1 hm with hm | hm
      · exact hm
      · obtain ⟨x, hx, hx1, _⟩ := esRel_mem r5 e hm
        exact (keq_false_ne (hoth x (List.mem_append.2 (.inr hx))) hk hx1).elim
  subst hee
  obtain ⟨A, C, hAC⟩ := List.append_of_mem he
  have hrest : (l1 ++ l2).Perm (A ++ C) := by
    rw [hAC] at c2
    exact (List.perm_cons e).1 (List.perm_middle.symm.trans (c2.trans List.perm_middle))
  refine ⟨es1, es2, l1, l2, A, C, rfl, rfl, r1, r5, r4, hAC, hrest, fun x hx hb => ?_, h1, hkk⟩
  have hnd : (en.toList.map (·.born)).Nodup := ((c2.map _).nodup_iff).1 c5
  rw [hAC, List.map_append, List.map_cons, List.nodup_append] at hnd
  exact hnd.2.2 x.born (List.mem_map.2 ⟨x, hx, rfl⟩) e.born (by simp) hb

theorem findIdx_at {p : MapEntry → Bool} {en : Array MapEntry} {e : MapEntry} {A C : List MapEntry} (h : en.toList = A ++ e :: C) (hA : ∀ x ∈ A, p x = false) (he : p e = true) : en.findIdx? p = some A.length := by
  have : en = (A ++ e :: C).toArray := by rw [← h]
  rw [this, List.findIdx?_toArray, List.findIdx?_append]
  have hn : A.findIdx? p = none := by rw [List.findIdx?_eq_none_iff]; exact hA
  simp [hn, List.findIdx?_cons, he]

theorem find_at {p : MapEntry → Bool} {en : Array MapEntry} {e : MapEntry} {A C : List MapEntry} (h : en.toList = A ++ e :: C) (hA : ∀ x ∈ A, p x = false) (he : p e = true) : en.find? p = some e := by
  have : en = (A ++ e :: C).toArray := by rw [← h]
  rw [this, List.find?_toArray, List.find?_append]
  have hn : A.find? p = none := by rw [List.find?_eq_none]; intro x hx; simp [hA x hx]
  simp [hn, he]

theorem entryStore_sound (h : Rel φ B H w) {t : TypeId} {m s x v : AV} {um us ux : Value} (hm : RV φ m um) (hs : RV φ s us) (hx : RV φ x ux) (hr : doEntryStore B m s x H = .ok v H') :
    ∃ w', (Instr.entryStore t um us ux).run P w = .ok () w' ∧ v = .undef ∧ Rel φ B H' w' ∧ Step bd φ H.next.toNat w φ w' ∧ H'.next = H.next := by
  unfold doEntryStore at hr
  split at hr <;> try (simp at hr; done)
  rename_i b sn
  simp only [RV] at hm hs
  obtain ⟨n, hn, rfl⟩ := hm
  obtain ⟨mm, hmm, rfl⟩ := hs
  cases hse : sameEntry sn b H.last with
  | none => rw [hse] at hr; simp at hr
  | some k =>
    rw [hse] at hr
    simp only at hr
    have hlast : H.last = some (sn, b, k) := by
      unfold sameEntry at hse
      split at hse
      · rename_i n' b' k' hl
        split at hse
        · rename_i hb
          simp only [Bool.and_eq_true] at hb
          simp only [Option.some.injEq] at hse
          rw [Nat.eq_of_beq_eq_true hb.1, Pos.beq_eq _ _ hb.2, ← hse]
          exact hl
        · simp at hse
      · simp at hse
    obtain ⟨ver, es, hb, hr⟩ := getMap_of hr
    have hat := h.blks b
    rw [hb] at hat
    obtain ⟨en, cl, l, c1, c2, c3, c4, c5, c6⟩ := hat n hn
    obtain ⟨en', cl', d1, e, d2, d3, d4⟩ := h.last hlast hn hmm
    rw [c1] at d1
    simp only [Option.some.injEq, Obj.map.injEq] at d1
    obtain ⟨rfl, rfl⟩ := d1
    split at hr <;> try (simp at hr; done)
    rename_i y hq
    simp only [R2.ok.injEq] at hr
    obtain ⟨rfl, rfl⟩ := hr
    obtain ⟨es1, es2, l1, l2, A, C, rfl, rfl, q3, q4, q6, q7, q8, q9, q10, q11⟩ := the_entry (n := n) (cl := cl) c2 c3 c5 c6 hq d2 d4
    rw [mrep_split q11 q10]
    have hg := setObj_get (o' := .map (en.modify A.length fun e => { e with val := ux }) cl) c1
    obtain ⟨a, b'⟩ := h.setMap (bd := bd) hn hb (only_setObj w n (.map (en.modify A.length fun e => { e with val := ux }) cl)) (mapAt_rep (e := e) (u := e.key) hg (arr_modify q7) q3 q4 q8 d4 hx c4 c5 c6)
    refine ⟨_, ?_, rfl, a, b', rfl⟩
    have hidx : en.findIdx? (fun x => (x.born : Int) == mm) = some A.length := findIdx_at q7 (fun z hz => by
      have := q9 z hz
      rw [← d3]
      simp only [beq_eq_false_iff_ne, ne_eq, Int.natCast_inj]
      exact this) (by rw [← d3]; simp)
    simp [Instr.entryStore, run_getMap c1, asInt, asIntOf, hidx, run_setMap _ c1]
end Go.AM

/- The entry of an iterator; nil checks. -/
namespace Go.AM
open Go
variable {P : Program} {φ : Phi} {B : Tree ABlk} {H H' : Heap} {w : World} {bd : Nat}

theorem entry_sound (h : Rel φ B H w) {it v : AV} {u : Value} (hi : RV φ it u) (hr : doEntry B it H = .ok v H') : RanV P (Instr.entry u) bd φ B H w v H' := by
  cases it <;> simp only [doEntry] at hr <;> try (simp at hr; done)
  case iter b =>
    simp only [RV] at hi
    obtain ⟨n, hn, rfl⟩ := hi
    have hat := h.blks b
    split at hr <;> try (simp at hr; done)
    rename_i m ver left k hb
    rw [hb] at hat
    obtain ⟨nm, since, seen, last, h1, h2, h3⟩ := hat n hn
    obtain ⟨ver', es, hbm, hr⟩ := getMap_of hr
    cases hv : Nat.beq ver ver' with
    | false => rw [hv] at hr; simp at hr
    | true =>
      rw [hv] at hr
      simp only at hr
      obtain ⟨_, h4⟩ := h3 ver' es hbm
      obtain ⟨en, cl, l, ll, a1, a2, a3, a4, a5, a6, a7, a8, a9⟩ := h4 (Nat.eq_of_beq_eq_true hv)
      obtain ⟨rfl, e, e1, e2, e3⟩ := a9 k rfl
      split at hr <;> try (simp at hr; done)
      rename_i y hq
      simp only [R2.ok.injEq] at hr
      obtain ⟨rfl, rfl⟩ := hr
      have hmat := h.blks m
      rw [hbm] at hmat
      obtain ⟨en', cl', l', c1, c2, c3, c4, c5, c6⟩ := hmat nm h1
      rw [a1] at c1
      simp only [Option.some.injEq, Obj.map.injEq] at c1
      obtain ⟨rfl, rfl⟩ := c1
      obtain ⟨es1, es2, l1, l2, A, C, rfl, rfl, q3, q4, q6, q7, q8, q9, q10, q11⟩ := the_entry (n := nm) (cl := last) c2 c3 c5 c6 hq (a2.mem_iff.1 e1) e3
      have hf : en.find? (fun x => x.born == e.born) = some e := find_at q7 (fun z hz => by have := q9 z hz; simp [this]) (by simp)
      refine RanV.same h (u := .tuple #[e.key, e.val]) ?_ ?_
      · simp [Instr.entry, run_getIter h2, e2, run_getMap a1, hf]
      · simp only [RV, RVs]
        exact ⟨[e.key, e.val], rfl, _, _, rfl, e3, _, _, rfl, q6, rfl⟩
end Go.AM

/- Nil checks; the operations, as a whole. -/
namespace Go.AM
open Go
variable {P : Program} {φ : Phi} {B : Tree ABlk} {H H' : Heap} {w : World} {bd : Nat}

theorem nilAhead_of {t : TypeId} {v : AV} {u : Value} {name : String} (hv : RV φ v u) (h : nilAheadA P t v name = true) (n : Nat) : (nilAhead (n + 1) t u name).run P w = .ok (some false) w := by
  unfold nilAheadA at h
  cases hi : infoOf P t with
  | none => rw [hi] at h; simp at h
  | some info =>
    rw [hi] at h
    simp only at h
    have hti : (typeInfo t).run P w = .ok info w := by simp [typeInfo, info_of hi]
    cases hm : info.methods.find? (·.name == name) with
    | none => rw [hm] at h; simp at h
    | some m =>
      rw [hm] at h
      simp only at h
      cases hp : m.path.isEmpty with
      | false => rw [hp] at h; simp at h
      | true =>
        rw [hp] at h
        have hpl : m.path.toList = [] := by simpa using hp
        cases hf : m.func with
        | none => rw [hf] at h; simp at h
        | some q =>
          obtain ⟨f, b⟩ := q
          rw [hf] at h
          cases b with
          | true => simp [nilAhead, hti, hm, hpl, followBlind, hf]
          | false =>
            simp only at h
            cases hd : underOf P t with
            | none => rw [hd] at h; simp at h
            | some d =>
              rw [hd] at h
              have hr := run_underlying_of hd w
              cases d
              case pointer e =>
                cases v <;> try (simp at h; done)
                case ptr b g off ext =>
                  simp only [RV] at hv
                  obtain ⟨n0, L, N, _, _, rfl⟩ := hv
                  simp [nilAhead, hti, hm, hpl, followBlind, hf, hr]
              all_goals simp [nilAhead, hti, hm, hpl, followBlind, hf, hr]

theorem ranVal {s : Sem Next} {v : AV} {u : Value} (h : Rel φ B H w) (hr : s.run P w = .ok (.value u) w) (hv : RV φ v u) : Ran P s bd φ B H w v H :=
  ⟨φ, u, w, .inl hr, hv, h, Step.refl _ _ _ _, Nat.le_refl _⟩

theorem nilCheck_sound (h : Rel φ B H w) {ρ : Operand → Value} {o : Oper} {x : Operand} {a v : AV} (ho : o.op = .nilCheck x) (hx : RV φ a (ρ x)) (hr : doNilCheck P a H = .ok v H') : Ran P (execOp ρ o) bd φ B H w v H' := by
  have hx0 := hx
  unfold execOp
  rw [ho]
  simp only
  generalize ρ x = u at hx hx0 ⊢
  unfold doNilCheck at hr
  split at hr
  · simp only [R2.ok.injEq] at hr
    obtain ⟨rfl, rfl⟩ := hr
    simp only [RV] at hx
    obtain ⟨n0, L, N, _, _, rfl⟩ := hx
    exact ranVal h rfl hx0
  · simp only [R2.ok.injEq] at hr
    obtain ⟨rfl, rfl⟩ := hr
    simp only [RV] at hx
    obtain ⟨us, ws, rfl, _⟩ := hx
    exact ranVal h rfl hx0
  · rename_i name t y
    split at hr <;> try (simp at hr; done)
    rename_i hn
    simp only [R2.ok.injEq] at hr
    obtain ⟨rfl, rfl⟩ := hr
    simp only [RV] at hx
    obtain ⟨r, rfl, z, rfl, hz⟩ := hx
    have hna : (nilAhead (P.types.size + Made.depth) t z name).run P w = .ok (some false) w := by
      have hp : 0 < Made.depth := by decide
      obtain ⟨n, hn'⟩ : ∃ n, P.types.size + Made.depth = n + 1 := ⟨P.types.size + Made.depth - 1, by omega⟩
      rw [hn']
      exact nilAhead_of hz hn n
    exact ranVal h (by simp [hna]) hx0
  · simp only [R2.ok.injEq] at hr
    obtain ⟨rfl, rfl⟩ := hr
    simp only [RV] at hx
    obtain ⟨z, rfl, _⟩ := hx
    exact ranVal h rfl hx0
  · simp only [R2.ok.injEq] at hr
    obtain ⟨rfl, rfl⟩ := hr
    simp only [RV] at hx
    obtain ⟨n0, L, N, _, _, _, rfl, _⟩ := hx
    exact ranVal h rfl hx0
  · simp only [R2.ok.injEq] at hr
    obtain ⟨rfl, rfl⟩ := hr
    simp only [RV] at hx
    obtain ⟨n0, _, rfl⟩ := hx
    exact ranVal h rfl hx0
  · simp at hr
end Go.AM

/- Builtins. -/
namespace Go.AM
open Go
variable {P : Program} {φ : Phi} {B : Tree ABlk} {H H' : Heap} {w : World} {bd : Nat}

theorem type0_of {ts : Array TypeId} {f : TypeId → R2} {v : AV} (h : type0 ts f = .ok v H') : ∃ t, ts[0]? = some t ∧ f t = .ok v H' := by
  unfold type0 at h
  split at h
  · exact ⟨_, by assumption, h⟩
  · simp at h
theorem type1_of {ts : Array TypeId} {f : TypeId → R2} {v : AV} (h : type1 ts f = .ok v H') : ∃ t, ts[1]? = some t ∧ f t = .ok v H' := by
  unfold type1 at h
  split at h
  · exact ⟨_, by assumption, h⟩
  · simp at h
theorem args1_of {args : List AV} {us : List Value} {f : AV → R2} {v : AV} (ha : RVs φ args us) (h : args1 args f = .ok v H') : ∃ x u, us = [u] ∧ RV φ x u ∧ f x = .ok v H' := by
  unfold args1 at h
  split at h
  · simp only [RVs] at ha
    obtain ⟨u, us', rfl, hx, rfl⟩ := ha
    exact ⟨_, u, rfl, hx, h⟩
  · simp at h
theorem args2_of {args : List AV} {us : List Value} {f : AV → AV → R2} {v : AV} (ha : RVs φ args us) (h : args2 args f = .ok v H') : ∃ x y u z, us = [u, z] ∧ RV φ x u ∧ RV φ y z ∧ f x y = .ok v H' := by
  unfold args2 at h
  split at h
  · simp only [RVs] at ha
    obtain ⟨u, us', rfl, hx, z, us'', rfl, hy, rfl⟩ := ha
    exact ⟨_, _, u, z, rfl, hx, hy, h⟩
  · simp at h

theorem builtin_sound (h : Rel φ B H w) (hbd : bd ≤ w.heap.size) {bi : Builtin} {ts : Array TypeId} {ty : TypeId} {consts : Array Bool} {args : List AV} {us : List Value} {v : AV} (ha : RVs φ args us)
    (hr : doBuiltin P B bi ts args H = .ok v H') : Ran P (Go.builtin bi ts ty consts us.toArray) bd φ B H w v H' := by
  cases bi <;> simp only [doBuiltin] at hr <;> try (simp at hr; done)
  case append =>
    obtain ⟨t, h0, hr⟩ := type0_of hr
    obtain ⟨t1, h1, hr⟩ := type1_of hr
    obtain ⟨x, y, u, z, rfl, hx, hy, hr⟩ := args2_of ha hr
    exact (append_sound (ty := ty) h hbd h0 h1 hx hy hr).ran
  case len =>
    obtain ⟨t, h0, hr⟩ := type0_of hr
    obtain ⟨x, u, rfl, hx, hr⟩ := args1_of ha hr
    exact (len_sound (ty := ty) h h0 hx hr).ran
  case cap =>
    obtain ⟨t, h0, hr⟩ := type0_of hr
    obtain ⟨x, u, rfl, hx, hr⟩ := args1_of ha hr
    exact (cap_sound (ty := ty) h h0 hx hr).ran
  case copy =>
    obtain ⟨t, h0, hr⟩ := type0_of hr
    obtain ⟨x, y, u, z, rfl, hx, hy, hr⟩ := args2_of ha hr
    exact (copy_sound (ty := ty) h h0 hx hy hr).ran
  case clear =>
    obtain ⟨t, h0, hr⟩ := type0_of hr
    obtain ⟨x, u, rfl, hx, hr⟩ := args1_of ha hr
    exact (clear_sound (ty := ty) h h0 hx hr).ran
  case delete =>
    obtain ⟨t, h0, hr⟩ := type0_of hr
    obtain ⟨x, y, u, z, rfl, hx, hy, hr⟩ := args2_of ha hr
    exact (delete_sound (ty := ty) h h0 hx hy hr).ran
  case min =>
    obtain ⟨u, us', rfl, hr⟩ := minMax_sound (P := P) (bd := bd) h (fun a b c => min2_of a b c) ha hr
    exact hr.ran
  case max =>
    obtain ⟨u, us', rfl, hr⟩ := minMax_sound (P := P) (bd := bd) h (fun a b c => max2_of a b c) ha hr
    exact hr.ran
end Go.AM

/- Every operation but calls, and the next of an iterator. -/
namespace Go.AM
open Go
variable {P : Program} {φ : Phi} {B : Tree ABlk} {H H' : Heap} {w : World} {bd : Nat}

theorem rvs_of {ρA : Operand → AV} {ρ : Operand → Value} (hρ : ∀ x, RV φ (ρA x) (ρ x)) : ∀ l : List Operand, RVs φ (l.map ρA) (l.map ρ)
  | [] => by simp [RVs]
  | x :: l => by simp only [List.map_cons, RVs]; exact ⟨_, _, rfl, hρ x, rvs_of hρ l⟩

theorem ran_unit {s : Sem Unit} {v : AV} (h : ∃ w', s.run P w = .ok () w' ∧ v = .undef ∧ Rel φ B H' w' ∧ Step bd φ H.next.toNat w φ w' ∧ H'.next = H.next) : Ran P (do s; pure .skip) bd φ B H w v H' := by
  obtain ⟨w', h1, rfl, h2, h3, h4⟩ := h
  exact ⟨φ, undef, w', .inr ⟨by simp [h1], rfl⟩, by simp [RV], h2, h3, by rw [h4]; exact Nat.le_refl _⟩

theorem opt_of {ρA : Operand → AV} {ρ : Operand → Value} (hρ : ∀ x, RV φ (ρA x) (ρ x)) (x : Option Operand) : match x.map ρA, x.map ρ with | none, none => True | some a, some v => RV φ a v | _, _ => False := by
  cases x with
  | none => trivial
  | some x => exact hρ x

theorem simple_sound (h : Rel φ B H w) (hbd : bd ≤ w.heap.size) {ρA : Operand → AV} {ρ : Operand → Value} (hρ : ∀ x, RV φ (ρA x) (ρ x)) {o : Oper} {v : AV} (hr : simple P B o.op ρA H = .ok v H') : Ran P (execOp ρ o) bd φ B H w v H' := by
  cases hop : o.op <;> rw [hop] at hr <;> simp only [simple] at hr <;> try (simp at hr; done)
  case nilCheck x => exact nilCheck_sound h hop (hρ x) hr
  all_goals
    unfold execOp
    rw [hop]
    simp only
  case move x =>
    simp only [R2.ok.injEq] at hr
    obtain ⟨rfl, rfl⟩ := hr
    exact ranVal h rfl (hρ x)
  case assign x =>
    simp only [R2.ok.injEq] at hr
    obtain ⟨rfl, rfl⟩ := hr
    exact ranVal h rfl (hρ x)
  case pick c a b => exact pick_sound h (hρ c) (hρ a) (hρ b) hr
  case alloc t => exact (alloc_sound h hbd t hr).ran
  case box t x => exact (box_sound h hbd (hρ x) t hr).ran
  case build t parts => exact (build_sound h hρ hr).ran
  case buildSlice t len parts => exact (buildSlice_sound h hbd hρ hr).ran
  case insert t m k x => exact ran_unit (mapUpdate_sound h (hρ m) (hρ k) (hρ x) hr)
  case load t a => exact (load_sound h (hρ a) hr).ran
  case store t a x => exact ran_unit (store_sound h (hρ a) (hρ x) hr)
  case binOp op t x y c => exact (binOp_sound h (hρ x) (hρ y) hr).ran
  case unOp op t x => exact (unOp_sound h (hρ x) hr).ran
  case convert s d x => exact (convert_sound h hbd (hρ x) hr).ran
  case makeInterface t x => exact (makeInterface_sound h (hρ x) hr).ran
  case makeFunc fn a b =>
    exact (makeFunc_sound (us := a.map ρ) (zs := b.map ρ) h (by rw [Array.toList_map]; exact rvs_of hρ _) (by rw [Array.toList_map]; exact rvs_of hρ _) hr).ran
  case makeMap t r => exact (makeMap_sound h hbd (opt_of hρ r) hr).ran
  case makeSlice t l c => exact (makeSlice_sound h hbd (hρ l) (hρ c) hr).ran
  case slice t x lo hi mx => exact (slice_sound h (hρ x) (boundIs_of (opt_of hρ lo)) (boundIs_of (opt_of hρ hi)) (boundIs_of (opt_of hρ mx)) hr).ran
  case fieldAddr s x f => exact (fieldAddr_sound h (hρ x) hr).ran
  case field t x f => exact (field_sound h (hρ x) hr).ran
  case indexAddr t x i => exact (indexAddr_sound h (hρ x) (hρ i) hr).ran
  case index t x i => exact (index_sound h (hρ x) (hρ i) hr).ran
  case lookup t m k ok => exact (lookup_sound h (hρ m) (hρ k) hr).ran
  case mapUpdate t m k x => exact ran_unit (mapUpdate_sound h (hρ m) (hρ k) (hρ x) hr)
  case mapEntry t m k => exact (mapEntry_sound h (hρ m) (hρ k) hr).ran
  case entryStore t m s x => exact ran_unit (entryStore_sound h (hρ m) (hρ s) (hρ x) hr)
  case range t x => exact (range_sound h hbd (hρ x) hr).ran
  case entry it => exact (entry_sound h (hρ it) hr).ran
  case typeAssert x xt t ok => exact (typeAssert_sound h (hρ x) hr).ran
  case extract x i => exact (extract_sound h (hρ x) hr).ran
  case call c =>
    cases hc : c.callee with
    | value f => rw [hc] at hr; simp at hr
    | invoke r name => rw [hc] at hr; simp at hr
    | builtin b =>
      rw [hc] at hr
      obtain ⟨φ', u, w', q, r⟩ := builtin_sound (ty := o.type) (consts := c.args.map fun | .const _ => true | _ => false) h hbd (rvs_of hρ c.args.toList) hr
      refine ⟨φ', u, w', ?_, r⟩
      have e : (c.args.toList.map ρ).toArray = c.args.map ρ := by rw [← Array.toList_map]
      rw [e] at q
      have hre : resolve ρ c o.type = pure { target := .builtin b c.argTypes o.type (c.args.map fun | .const _ => true | _ => false), args := c.args.map ρ } := by
        unfold resolve
        rw [hc]
        rfl
      rw [hre]
      exact q
end Go.AM
