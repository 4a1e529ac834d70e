/-
  Operations sound, part H.
-/
import Derived.Test.YtoinombhonbibaaGreatDoorAeG
set_option linter.unusedSimpArgs false
set_option linter.unusedVariables false
set_option linter.unusedSectionVars false
namespace Go.AE

section
variable {P : Program} {β : Inj} {ρ : Operand → Value}

/-- What it says that an operation's value is there. -/
def Gives (P : Program) (β : Inj) (s : Sem Next) (v : AV) (w : World) : Prop := ∃ u, s.run P w = .ok (.value u) w ∧ VRel P β v u

theorem Gives.of_v {s : Sem Value} {v : AV} {w : World} (h : ∃ u, s.run P w = .ok u w ∧ VRel P β v u) : Gives P β (do pure (Next.value (← s))) v w := by
  obtain ⟨u, h1, h2⟩ := h
  exact ⟨u, run_v h1, h2⟩

theorem VRel.int_eq {k : IntKind} {n : Int} {u : Value} (h : VRel P β (.int k n) u) : u = .int k n := h
theorem VRel.bool_eq {b : Bool} {u : Value} (h : VRel P β (.bool b) u) : u = .bool b := h

theorem partPlaces_run {t : TypeId} {parts : List (Nat × Operand)} {pl : List (Nat × Nat)} (h : partPlaces P t parts = some pl) {z vs c : List AV} {zv : Value} (hz : VRels P β z zv.cells.toList)
    (hzr : ∀ w, (zeroValue t).run P w = .ok zv w) (hv : VRels P β vs (parts.map fun p => ρ p.2)) (hf : fillA z pl vs = some c) (w : World) :
    ∃ u, (Instr.build t (parts.map fun p => (p.1, ρ p.2)).toArray).run P w = .ok u w ∧ VRel P β (.agg c) u := by
  unfold partPlaces at h
  have e0 : ((parts.map fun p => (p.1, ρ p.2)).map (·.2)) = parts.map fun p => ρ p.2 := by simp
  split at h
  · rename_i fs hu
    split at h
    · rename_i pls hpl
      have hmap : (parts.map fun p => (p.1, ρ p.2)).map (fun p => pls.toArray[p.1]?) = pl.map some := by
        rw [List.map_map]
        clear hv hf e0 hz
        induction parts generalizing pl with
        | nil => simp at h; subst h; rfl
        | cons p r ih =>
          rw [List.mapM_cons] at h
          simp only [bind, Option.bind_eq_some_iff, pure, Option.some.injEq] at h
          obtain ⟨a, h1, l, h2, rfl⟩ := h
          simp only [List.map_cons, Function.comp]
          rw [ih h2]
          congr 1
          simpa using h1
      obtain ⟨cells', h1, h2⟩ := fill_sound (place := fun i => pls.toArray[i]?) hmap (by rw [e0]; exact hv) hz hf
      refine ⟨.agg cells', ?_, by simp only [VRel]; exact ⟨_, rfl, h2⟩⟩
      have hrun : (fs.mapM (fun f => do pure (f.offset, ← sizeOf f.type)) : Sem (Array (Nat × Nat))).run P w = .ok pls.toArray w := by
        rw [Array.mapM_eq_mapM_toList]
        have := places_run hpl w
        simp only [bind_pure_comp] at this
        simp [this]
      simp only [bind_pure_comp] at hrun
      simp [Instr.build, hzr, run_underlying hu, hrun]
      rw [show (fun i => pls.toArray[i]?) = (pls.toArray[·]?) from rfl] at h1
      simp at h1
      simp [h1]
    · cases h
  · rename_i n e hu
    split at h
    · rename_i s hs
      injection h with h; subst h
      have hmap : (parts.map fun p => (p.1, ρ p.2)).map (fun p => (some (p.1 * s, s) : Option (Nat × Nat))) = (parts.map fun p => (p.1 * s, s)).map some := by simp
      obtain ⟨cells', h1, h2⟩ := fill_sound (place := fun i => some (i * s, s)) hmap (by rw [e0]; exact hv) hz hf
      refine ⟨.agg cells', ?_, by simp only [VRel]; exact ⟨_, rfl, h2⟩⟩
      simp [Instr.build, hzr, run_underlying hu, run_szOf hs, h1]
    · cases h
  · cases h

theorem cOpds_nil {xs : List Operand} : xs.map ρ = [] ↔ xs = [] := by simp

/-- slicing. -/
theorem slice_run {t : TypeId} {x : Operand} {lo hi mx : Option Operand} {iop : IOp} {ys : List Operand} (hc : cOp P (.slice t x lo hi mx) = some (iop, ys)) {xs : List AV} (hx : VRels P β xs (ys.map ρ)) {v : AV}
    (hv : pureOp iop xs = some v) (w : World) : ∃ u, (Instr.sliceAt t (ρ x) (lo.map ρ) (hi.map ρ) (mx.map ρ)).run P w = .ok u w ∧ VRel P β v u := by
  simp only [cOp] at hc
  have hb : ∀ {bs : List AV}, VRels P β bs ((lo.toList ++ hi.toList ++ mx.toList).map ρ) → VRels P β bs ((lo.map ρ).toList ++ (hi.map ρ).toList ++ (mx.map ρ).toList) := by
    intro bs h
    have : (lo.toList ++ hi.toList ++ mx.toList).map ρ = (lo.map ρ).toList ++ (hi.map ρ).toList ++ (mx.map ρ).toList := by
      cases lo <;> cases hi <;> cases mx <;> rfl
    rwa [← this]
  have e1 : (lo.map ρ).isSome = lo.isSome := by cases lo <;> rfl
  have e2 : (hi.map ρ).isSome = hi.isSome := by cases hi <;> rfl
  have e3 : (mx.map ρ).isSome = mx.isSome := by cases mx <;> rfl
  have hsplit : ∃ a bs, xs = a :: bs ∧ VRel P β a (ρ x) ∧ VRels P β bs ((lo.toList ++ hi.toList ++ mx.toList).map ρ) := by
    have hys : ys = [x] ++ lo.toList ++ hi.toList ++ mx.toList := by
      split at hc
      · injection hc with hc; injection hc with _ h2; exact h2.symm
      · split at hc
        · injection hc with hc; injection hc with _ h2; exact h2.symm
        · cases hc
      · split at hc
        · split at hc
          · cases hc
          · injection hc with hc; injection hc with _ h2; exact h2.symm
        · cases hc
      · split at hc
        · split at hc
          · split at hc
            · cases hc
            · injection hc with hc; injection hc with _ h2; exact h2.symm
          · cases hc
        · cases hc
      · cases hc
    subst hys
    cases xs with
    | nil => simp [VRels] at hx
    | cons a bs =>
      have := hx
      simp only [List.cons_append, List.nil_append, List.map_cons] at this
      obtain ⟨_, _, he, h1, h2⟩ := this.cons
      injection he with g1 g2; subst g1; subst g2
      exact ⟨a, bs, rfl, h1, by simpa using h2⟩
  obtain ⟨a, bs, rfl, ha, hbs⟩ := hsplit
  have arr : ∀ {n e : Nat} {i : TypeInfo} (w : World), P.info? e = some i → ¬ 2 ^ 40 < n * i.bytes → sliceA (.arr n i.size e) lo.isSome hi.isSome mx.isSome a bs = some v →
      ∃ b o L l h m, a = .ptr b o ∧ β b = some L ∧ ρ x = .pointer (some ⟨L.blk, L.off + o, none⟩) ∧ (Instr.sliceBounds false n n (lo.map ρ) (hi.map ρ) (mx.map ρ)).run P w = .ok (l, h, m) w ∧
        VRel P β v (.slice (some (if m = l then ⟨L.blk, L.off + o, none⟩ else (⟨L.blk, L.off + o, none⟩ : Addr).add (l * i.size))) (h - l) (m - l)) := by
    intro n e i w hie hbd hs
    unfold sliceA at hs
    split at hs <;> first | (cases ‹SlK.arr _ _ _ = _›; done) | skip
    · rename_i n' sz' e' b o heq
      injection heq with g1 g2 g3; subst g1; subst g2; subst g3
      split at hs
      · rename_i l h m hbn
        injection hs with hs; subst hs
        obtain ⟨hr, hlh, hhm, hmy⟩ := bounds_run hbn (Nat.le_refl n) false e1 e2 e3 (hb hbs) w
        simp only [VRel] at ha
        obtain ⟨L, hL, hpx⟩ := ha
        refine ⟨b, o, L, l, h, m.getD n, rfl, hL, hpx, hr, ?_⟩
        have hmn : m.getD n ≤ n := by cases m with | none => simp | some m => simpa using hmy
        have hhn : h ≤ m.getD n := by cases m with | none => simpa using hhm | some m => simpa using hhm
        simp only [VRel]
        refine ⟨L, _, m.getD n - l, i, hL, hie, rfl, by omega, ?_, (fun h => by cases h), (fun c hc => by injection hc with hc)⟩
        · intro hpos
          rw [if_neg (by omega)]
          unfold Addr.add
          split
          · rename_i h0; simp [h0]
          · simp [Nat.add_assoc]
      · cases hs
    · cases hs
  split at hc
  · rename_i hu
    injection hc with hc; injection hc with h1 h2; subst h1; subst h2
    simp only [pureOp] at hv
    unfold sliceA at hv
    split at hv <;> first | (cases ‹SlK.str = _›; done) | skip
    · rename_i s _
      split at hv
      · cases hv
      · rename_i hmx
        have hmx' : mx = none := by cases mx <;> simp at hmx ⊢
        subst hmx'
        split at hv
        · rename_i l h m hbn
          injection hv with hv; subst hv
          simp only [VRel] at ha
          obtain ⟨str, hstr, hs⟩ := ha
          have hlen : s.length = str.size := by rw [← hs]; simp
          rw [hlen] at hbn
          have hb' := hb hbs
          simp only [Option.map_none, Option.toList_none, List.append_nil] at hb'
          obtain ⟨hr, hlh, hhm, hmy⟩ := bounds_run (vmx := none) hbn (Nat.le_refl _) false e1 e2 rfl (by simpa using hb') w
          refine ⟨.string (str.extract l h), ?_, ?_⟩
          · simp [Instr.sliceAt, run_underlying hu, Instr.slice, hstr, hr]
          · simp only [VRel]
            refine ⟨_, rfl, ?_⟩
            rw [← hs]
            rw [ByteArray.data_extract]
            simp [List.extract]
        · cases hv
    · cases hv
  · rename_i e hu
    split at hc
    · rename_i sz hsz
      injection hc with hc; injection hc with h1 h2; subst h1; subst h2
      simp only [pureOp] at hv
      unfold sliceA at hv
      split at hv <;> first | (cases ‹SlK.sl _ _ = _›; done) | skip
      · split at hv
        · rename_i r hbn
          obtain ⟨l, h, m⟩ := r
          injection hv with hv; subst hv
          have ha' : ρ x = .slice none 0 0 := ha
          obtain ⟨hr, hlh, hhm, hmy⟩ := bounds_run hbn (Nat.le_refl _) true e1 e2 e3 (hb hbs) w
          have h0 : h = 0 := by cases m with | none => simpa using hhm | some m => simp at hhm hmy; omega
          have l0 : l = 0 := by omega
          have m0 : m.getD 0 = 0 := by omega
          subst h0; subst l0
          rw [m0] at hr
          refine ⟨.slice none 0 0, ?_, rfl⟩
          simp [Instr.sliceAt, run_underlying hu, Instr.slice, ha', hr, run_szOf hsz]
        · cases hv
      · rename_i sz' e0 b o n c e' heq
        injection heq with g1 g2; subst g1; subst g2
        split at hv
        · rename_i l h m hbn
          split at hv
          case isFalse => cases hv
          rename_i hee; subst hee
          simp only [forceN_eq] at hv
          injection hv with hv; subst hv
          simp only [VRel] at ha
          obtain ⟨L, ad, cap, i, hL, hi', hxv, hncap, hadr, hnone, hsome⟩ := ha
          have hcy : c.getD n ≤ cap := by cases c with | none => simpa using hncap | some c => simp [hsome c rfl]
          obtain ⟨hr, hlh, hhm, hmy⟩ := bounds_run hbn hcy true e1 e2 e3 (hb hbs) w
          have hmc : m.getD cap ≤ cap := by cases m with | none => simp | some m => simp at hmy ⊢; omega
          have hhc : h ≤ m.getD cap := by
            cases m with
            | none => simp at hhm ⊢; omega
            | some m => simpa using hhm
          refine ⟨.slice (if m.getD cap = l then some ad else (some ad).map (·.add (l * sz))) (h - l) (m.getD cap - l), ?_, ?_⟩
          · simp [Instr.sliceAt, run_underlying hu, Instr.slice, hxv, hr, run_szOf hsz]
          · simp only [VRel]
            refine ⟨L, if m.getD cap = l then ad else ad.add (l * sz), m.getD cap - l, i, hL, hi', by split <;> rfl, by omega, ?_, ?_, ?_⟩
            · intro hpos
              rw [if_neg (by omega), hadr (by omega)]
              unfold Addr.add
              split
              · rename_i h0; simp [h0]
              · simp [Nat.add_assoc]
            · intro hc0
              have hszi : sz = i.size := by
                rw [szOf_info hi'] at hsz; injection hsz with hsz; exact hsz.symm
              cases m with
              | some m => simp at hc0
              | none =>
                simp at hc0
                obtain ⟨g1, g2⟩ := hnone hc0
                refine ⟨?_, g2⟩
                simp only [Option.getD_none]
                subst hszi
                have hlc : l ≤ cap := by simp at hhc; omega
                rw [← g1]
                have : cap * i.size = l * i.size + (cap - l) * i.size := by rw [← Nat.add_mul]; congr 1; omega
                omega
            · intro c' hc'
              cases m with
              | some m => simp at hc' ⊢; omega
              | none =>
                simp at hc' ⊢
                obtain ⟨c0, rfl, rfl⟩ := hc'
                rw [hsome c0 rfl]
        · cases hv
      · cases hv
    · cases hc
  · rename_i n e hu
    split at hc
    · rename_i i hie
      split at hc
      · cases hc
      · rename_i hbd
        injection hc with hc; injection hc with h1 h2; subst h1; subst h2
        simp only [pureOp] at hv
        obtain ⟨b, o, L, l, h, m, rfl, hL, hpx, hr, hrel⟩ := arr w hie hbd hv
        refine ⟨_, ?_, hrel⟩
        simp [Instr.sliceAt, run_underlying hu, Instr.sureAddr, hpx, hr, run_szOf (szOf_info hie)]
    · cases hc
  · rename_i pa hu
    split at hc
    · rename_i n e hu2
      split at hc
      · rename_i i hie
        split at hc
        · cases hc
        · rename_i hbd
          injection hc with hc; injection hc with h1 h2; subst h1; subst h2
          simp only [pureOp] at hv
          obtain ⟨b, o, L, l, h, m, rfl, hL, hpx, hr, hrel⟩ := arr w hie hbd hv
          refine ⟨_, ?_, hrel⟩
          simp [Instr.sliceAt, run_underlying hu, Instr.slice, run_underlying hu2, asAddr, hpx, hr, run_szOf (szOf_info hie)]
      · cases hc
    · cases hc
  · cases hc


theorem mapM_pl_ok : True := trivial

/-- A pure operation is the model's. -/
theorem pure_sound {o : Oper} {iop : IOp} {ys : List Operand} (hc : cOp P o.op = some (iop, ys)) (hk : kd iop = .pure) {xs : List AV} (hx : VRels P β xs (ys.map ρ)) {v : AV}
    (hv : pureOp iop xs = some v) (w : World) : Gives P β (execOp ρ o) v w := by
  obtain ⟨dst, op, type, pos, after, guard⟩ := o
  simp only at hc
  cases op with
  | move x =>
    simp only [cOp] at hc; injection hc with hc; injection hc with h1 h2; subst h1; subst h2
    obtain ⟨a, bs, rfl⟩ : ∃ a bs, xs = a :: bs := by cases xs with | nil => simp [VRels] at hx | cons a bs => exact ⟨a, bs, rfl⟩
    obtain ⟨_, _, he, r1, r2⟩ := hx.cons
    injection he with e1 e2; subst e1; subst e2
    simp only [List.map_nil] at r2
    cases bs with
    | cons b bs => simp [VRels] at r2
    | nil => simp [pureOp] at hv; subst hv; exact ⟨_, by simp [execOp], r1⟩
  | assign x =>
    simp only [cOp] at hc; injection hc with hc; injection hc with h1 h2; subst h1; subst h2
    obtain ⟨a, bs, rfl⟩ : ∃ a bs, xs = a :: bs := by cases xs with | nil => simp [VRels] at hx | cons a bs => exact ⟨a, bs, rfl⟩
    obtain ⟨_, _, he, r1, r2⟩ := hx.cons
    injection he with e1 e2; subst e1; subst e2
    simp only [List.map_nil] at r2
    cases bs with
    | cons b bs => simp [VRels] at r2
    | nil => simp [pureOp] at hv; subst hv; exact ⟨_, by simp [execOp], r1⟩
  | pick c a b =>
    simp only [cOp] at hc; injection hc with hc; injection hc with h1 h2; subst h1; subst h2
    simp only [pureOp] at hv
    split at hv <;> first | (rename_i h; cases h; done) | skip
    all_goals first | (cases hv; done) | skip
    rename_i c' a' b' _
    obtain ⟨_, _, _, he, r1, r2, r3⟩ := hx.three
    simp only [List.map_cons, List.map_nil, List.cons.injEq, and_true] at he
    obtain ⟨e1, e2, e3⟩ := he
    rw [← e1] at r1; rw [← e2] at r2; rw [← e3] at r3
    split at hv
    · injection hv with hv; subst hv
      exact ⟨ρ a, by simp [execOp, asBool, VRel.bool_eq r1], r2⟩
    · injection hv with hv; subst hv
      exact ⟨ρ b, by simp [execOp, asBool, VRel.bool_eq r1], r3⟩
    · cases hv
  | build t parts =>
    simp only [cOp] at hc
    split at hc
    · rename_i z pl hz hpl
      injection hc with hc; injection hc with h1 h2; subst h1; subst h2
      simp only [pureOp] at hv
      split at hv
      · rename_i c hf
        simp only [forceL_eq] at hv
        injection hv with hv; subst hv
        obtain ⟨zv, hzr, hzv, _⟩ := zeroCs_run (β := β) hz w
        have hzr' : ∀ w, (zeroValue t).run P w = .ok zv w := by
          intro w'
          obtain ⟨zv', h1, _⟩ := zeroCs_run (β := β) hz w'
          unfold zeroCs at hz
          split at hz
          · rename_i i hi
            split at hz
            · rename_i v' hv'
              have g1 : (zeroValue t).run P w = .ok v' w := by simp [zeroValue, run_typeInfo' hi, hv']
              have g2 : (zeroValue t).run P w' = .ok v' w' := by simp [zeroValue, run_typeInfo' hi, hv']
              rw [hzr] at g1; injection g1 with g1; rw [g1]; exact g2
            · cases hz
          · cases hz
        have := partPlaces_run (ρ := ρ) hpl hzv hzr' (by simpa [Function.comp_def] using hx) hf w
        refine Gives.of_v ?_
        have e : (parts.map fun (p : Nat × Operand) => (p.1, ρ p.2)) = (parts.toList.map fun p => (p.1, ρ p.2)).toArray := by
          apply Array.ext'; simp
        rw [show (Array.map (fun x => match x with | (i, x) => (i, ρ x)) parts) = (parts.map fun (p : Nat × Operand) => (p.1, ρ p.2)) from rfl, e]
        exact this
      · cases hv
    · cases hc
  | slice t x lo hi mx =>
    have := slice_run hc hx hv w
    exact Gives.of_v this
  | nilCheck x =>
    simp only [cOp] at hc; injection hc with hc; injection hc with h1 h2; subst h1; subst h2
    simp only [pureOp] at hv
    split at hv <;> first | (cases hv; done) | (rename_i h; cases h; done) | skip
    · injection hv with hv; subst hv
      obtain ⟨_, he, r1⟩ := hx.one
      simp only [List.map_cons, List.map_nil, List.cons.injEq, and_true] at he; rw [← he] at r1
      have r1' := r1
      simp only [VRel] at r1; obtain ⟨L, _, hr⟩ := r1
      exact ⟨ρ x, by simp [execOp, hr], r1'⟩
    · injection hv with hv; subst hv
      obtain ⟨_, he, r1⟩ := hx.one
      simp only [List.map_cons, List.map_nil, List.cons.injEq, and_true] at he; rw [← he] at r1
      have r1' := r1
      simp only [VRel] at r1; obtain ⟨us, vs, hr, _, _⟩ := r1
      exact ⟨ρ x, by simp [execOp, hr], r1'⟩
    · injection hv with hv; subst hv
      obtain ⟨_, he, r1⟩ := hx.one
      simp only [List.map_cons, List.map_nil, List.cons.injEq, and_true] at he; rw [← he] at r1
      have r1' := r1
      simp only [VRel] at r1; obtain ⟨L, _, hr⟩ := r1
      exact ⟨ρ x, by simp [execOp, hr], r1'⟩
  | binOp op t x y yt =>
    have bin : ∀ op', op' ≠ .eql → op' ≠ .neq → iop = .bin op' → op = op' → ys = [x, y] → Gives P β (execOp ρ ⟨dst, .binOp op t x y yt, type, pos, after, guard⟩) v w := by
      rintro op' n1 n2 rfl rfl rfl
      simp only [pureOp] at hv
      split at hv <;> first | (cases hv; done) | (rename_i h; cases h; done) | skip
      rename_i op'' x' y' heq
      injection heq with heq; subst heq
      obtain ⟨_, _, he, r1, r2⟩ := hx.two
      simp only [List.map_cons, List.map_nil, List.cons.injEq, and_true] at he; obtain ⟨e1, e2⟩ := he
      rw [← e1] at r1; rw [← e2] at r2
      obtain ⟨u, h1, h2⟩ := binA_run r1 r2 hv t w
      refine Gives.of_v ⟨u, ?_, h2⟩
      have hg : (eqGuard op t x y (ρ x) (ρ y)).run P w = .ok () w := by
        cases op <;> first | exact absurd rfl n1 | exact absurd rfl n2 | simp [eqGuard]
      simp only [Sem.run_bind, hg, Result.andThen_ok, h1]
    have eqc : ∀ neg : Bool, op = (if neg then .neq else .eql) → two (cEq P neg t) [x, y] = some (iop, ys) → Gives P β (execOp ρ ⟨dst, .binOp op t x y yt, type, pos, after, guard⟩) v w := by
      intro neg hop htwo
      unfold two at htwo
      split at htwo
      · rename_i i hi
        injection htwo with htwo; injection htwo with h1 h2; subst h1; subst h2
        cases i with
        | eq neg' k =>
          have hneg : neg' = neg := by
            unfold cEq at hi
            split at hi <;> first
              | (injection hi with hi; injection hi with h1 _; exact h1.symm)
              | (injection hi with hi; cases hi)
              | cases hi
              | (split at hi
                 · split at hi
                   · cases hi
                   · injection hi with hi; injection hi with h1 _; exact h1.symm
                 · cases hi)
          subst hneg
          simp only [pureOp] at hv
          split at hv <;> first | (cases hv; done) | (rename_i h; cases h; done) | skip
          rename_i neg'' k' x' y' heq
          injection heq with g1 g2; subst g1; subst g2
          split at hv
          · rename_i r hr
            injection hv with hv; subst hv
            obtain ⟨_, _, he, r1, r2⟩ := hx.two
            simp only [List.map_cons, List.map_nil, List.cons.injEq, and_true] at he; obtain ⟨e1, e2⟩ := he
            rw [← e1] at r1; rw [← e2] at r2
            have := aEq_run hi rfl hr r1 r2 x y w
            rw [← hop] at this
            refine Gives.of_v ⟨_, this, by simp only [VRel]⟩
          · cases hv
        | bin op' =>
          have hbin : op' = (if neg then .neq else .eql) ∧ ((∃ k, P.underlying t = some (.int k)) ∨ P.underlying t = some .string) := by
            unfold cEq at hi
            split at hi <;> first
              | (injection hi with hi; cases hi; done)
              | (cases hi; done)
              | (split at hi
                 · split at hi
                   · cases hi
                   · injection hi with hi; cases hi
                 · cases hi)
              | (rename_i hu; injection hi with hi; injection hi with hi; exact ⟨hi.symm, .inl ⟨_, hu⟩⟩)
              | (rename_i hu; injection hi with hi; injection hi with hi; exact ⟨hi.symm, .inr hu⟩)
          obtain ⟨rfl, hu⟩ := hbin
          rw [← hop] at hv
          simp only [pureOp] at hv
          split at hv <;> first | (cases hv; done) | (rename_i h; cases h; done) | skip
          rename_i op'' x' y' heq
          injection heq with heq
          obtain ⟨_, _, he, r1, r2⟩ := hx.two
          simp only [List.map_cons, List.map_nil, List.cons.injEq, and_true] at he; obtain ⟨e1, e2⟩ := he
          rw [← e1] at r1; rw [← e2] at r2
          obtain ⟨u, h1, h2⟩ := binA_run r1 r2 hv t w
          rw [← heq] at h1
          refine Gives.of_v ⟨u, ?_, h2⟩
          have hg : (eqGuard op t x y (ρ x) (ρ y)).run P w = .ok () w := by
            unfold binA at hv
            split at hv
            · simp only [VRel] at r1 r2; rw [r1, r2]; cases op <;> simp [eqGuard]
            · simp only [VRel] at r1 r2; obtain ⟨_, r1, _⟩ := r1; obtain ⟨_, r2, _⟩ := r2; rw [r1, r2]; cases op <;> simp [eqGuard]
            · cases hv
          simp only [Sem.run_bind, hg, Result.andThen_ok, h1]
        | _ =>
          exfalso
          unfold cEq at hi
          split at hi <;> first
            | (injection hi with hi; cases hi; done)
            | (cases hi; done)
            | (split at hi
               · split at hi
                 · cases hi
                 · injection hi with hi; cases hi
               · cases hi)
      · cases htwo
    cases op with
    | eql => simp only [cOp] at hc; exact eqc false rfl hc
    | neq => simp only [cOp] at hc; exact eqc true rfl hc
    | _ =>
      simp only [cOp] at hc; injection hc with hc; injection hc with h1 h2
      exact bin _ (by intro h; cases h) (by intro h; cases h) h1.symm rfl h2.symm
  | unOp op t x =>
    simp only [cOp] at hc; injection hc with hc; injection hc with h1 h2; subst h1; subst h2
    simp only [pureOp] at hv
    split at hv <;> first | (cases hv; done) | (rename_i h; cases h; done) | skip
    rename_i op' x' heq
    injection heq with heq; subst heq
    obtain ⟨_, he, r1⟩ := hx.one
    simp only [List.map_cons, List.map_nil, List.cons.injEq, and_true] at he; rw [← he] at r1
    exact Gives.of_v (unA_run r1 hv w)
  | convert s d x =>
    simp only [cOp] at hc
    split at hc
    · rename_i ds k hs hd
      injection hc with hc; injection hc with h1 h2; subst h1; subst h2
      simp only [pureOp] at hv
      split at hv <;> first | (cases hv; done) | (rename_i h; cases h; done) | skip
      rename_i k' j n heq
      injection heq with heq; subst heq
      simp only [mkInt_eq] at hv; injection hv with hv; subst hv
      obtain ⟨_, he, r1⟩ := hx.one
      simp only [List.map_cons, List.map_nil, List.cons.injEq, and_true] at he; rw [← he] at r1
      refine Gives.of_v ⟨.int k (k.wrap n), ?_, by simp only [VRel]⟩
      rw [VRel.int_eq r1]
      simp [convert, run_underlying hs, run_underlying hd, Conv.intToInt]
    · rename_i hs hd
      injection hc with hc; injection hc with h1 h2; subst h1; subst h2
      simp only [pureOp] at hv
      split at hv <;> first | (cases hv; done) | (rename_i h; cases h; done) | skip
      injection hv with hv; subst hv
      obtain ⟨_, he, r1⟩ := hx.one
      simp only [List.map_cons, List.map_nil, List.cons.injEq, and_true] at he; rw [← he] at r1
      have r1' := r1
      simp only [VRel] at r1; obtain ⟨str, hstr, _⟩ := r1
      refine Gives.of_v ⟨ρ x, ?_, r1'⟩
      rw [hstr]
      simp [convert, run_underlying hs, run_underlying hd]
    · split at hc
      · split at hc
        · injection hc with hc; injection hc with h1 _; subst h1; simp [kd] at hk
        · cases hc
      · cases hc
    · split at hc
      · split at hc
        · injection hc with hc; injection hc with h1 _; subst h1; simp [kd] at hk
        · cases hc
      · cases hc
    · split at hc
      · split at hc
        · injection hc with hc; injection hc with h1 _; subst h1; simp [kd] at hk
        · cases hc
      · cases hc
    · cases hc
  | sliceToArrayPointer t x =>
    simp only [cOp] at hc
    split at hc
    · rename_i n e hu
      injection hc with hc; injection hc with h1 h2; subst h1; subst h2
      simp only [pureOp] at hv
      split at hv <;> first | (cases hv; done) | (rename_i h; cases h; done) | skip
      rename_i n' b o m c e' heq
      injection heq with heq; subst heq
      split at hv
      · rename_i hnm
        injection hv with hv; subst hv
        obtain ⟨_, he, r1⟩ := hx.one
        simp only [List.map_cons, List.map_nil, List.cons.injEq, and_true] at he; rw [← he] at r1
        simp only [VRel] at r1
        obtain ⟨L, ad, cap, i, hL, _, hxv, hncap, hadr, _⟩ := r1
        refine Gives.of_v ⟨.pointer (some ad), ?_, ?_⟩
        · simp only [Instr.arrayAt, Sem.run_bind, run_underlying hu, Result.andThen_ok, hxv]
          rw [if_neg (by omega)]; rfl
        · simp only [VRel]; exact ⟨L, hL, by rw [hadr (by omega)]⟩
      · cases hv
    · cases hc
  | makeInterface t x =>
    simp only [cOp] at hc; injection hc with hc; injection hc with h1 h2; subst h1; subst h2
    simp [pureOp] at hv
  | panic x =>
    simp only [cOp] at hc; injection hc with hc; injection hc with h1 h2; subst h1; subst h2
    simp [pureOp] at hv
  | makeFunc fn first captured =>
    cases fn with
    | func f =>
      simp only [cOp] at hc; injection hc with hc; injection hc with h1 h2; subst h1; subst h2
      simp only [pureOp] at hv
      injection hv with hv; subst hv
      refine Gives.of_v ⟨.func (.func f) (first.map ρ) (captured.map ρ), by simp [Instr.makeFunc], ?_⟩
      simp only [VRel]
      refine ⟨_, _, rfl, ?_, ?_⟩
      · have := hx.take first.size; simpa using this
      · have := hx.drop first.size; simpa using this
    | _ => simp [cOp] at hc
  | fieldAddr t x i =>
    simp only [cOp] at hc
    split at hc
    · rename_i fs hu
      split at hc
      · rename_i f hf
        split at hc
        · rename_i s hs
          split at hc
          · cases hc
          · rename_i hs0
            injection hc with hc; injection hc with h1 h2; subst h1; subst h2
            simp only [pureOp] at hv
            split at hv <;> first | (cases hv; done) | (rename_i h; cases h; done) | skip
            rename_i off b o heq
            injection heq with heq; subst heq
            simp only [forceN_eq] at hv; injection hv with hv; subst hv
            obtain ⟨_, he, r1⟩ := hx.one
            simp only [List.map_cons, List.map_nil, List.cons.injEq, and_true] at he; rw [← he] at r1
            simp only [VRel] at r1
            obtain ⟨L, hL, hxv⟩ := r1
            refine Gives.of_v ⟨.pointer (some ((⟨L.blk, L.off + o, none⟩ : Addr).add f.offset)), ?_, ?_⟩
            · simp [Instr.fieldAt, run_underlying hu, hf, Instr.sureAddr, hxv, fieldPlace, run_szOf hs, hs0]
            · simp only [VRel]
              refine ⟨L, hL, ?_⟩
              unfold Addr.add
              split
              · rename_i h0; simp [h0]
              · simp [Nat.add_assoc]
        · cases hc
      · cases hc
    · cases hc
  | field t x i =>
    simp only [cOp] at hc
    split at hc
    · rename_i fs hu
      split at hc
      · rename_i f hf
        split at hc
        · rename_i k hk'
          injection hc with hc; injection hc with h1 h2; subst h1; subst h2
          simp only [pureOp] at hv
          split at hv <;> first | (cases hv; done) | (rename_i h; cases h; done) | skip
          rename_i off n c heq
          injection heq with heq1 heq2; subst heq1; subst heq2
          obtain ⟨_, he, r1⟩ := hx.one
          simp only [List.map_cons, List.map_nil, List.cons.injEq, and_true] at he; rw [← he] at r1
          simp only [VRel] at r1
          obtain ⟨vs, hxv, hvs⟩ := r1
          refine Gives.of_v ?_
          split at hv
          · split at hv
            · rename_i l hl
              injection hv with hv; subst hv
              obtain ⟨u, h1, h2⟩ := part_some hk' hvs hl w
              exact ⟨u, by simp [Instr.field, run_underlying hu, hf, asAgg, hxv, h1], h2⟩
            · cases hv
          · split at hv
            · rename_i a hl
              injection hv with hv; subst hv
              obtain ⟨u, h1, h2⟩ := part_none hk' hvs hl w
              exact ⟨u, by simp [Instr.field, run_underlying hu, hf, asAgg, hxv, h1], h2⟩
            · cases hv
        · cases hc
      · cases hc
    · cases hc
  | indexAddr t x i =>
    simp only [cOp] at hc
    split at hc
    · rename_i n e hu
      split at hc
      · rename_i s hs
        injection hc with hc; injection hc with h1 h2; subst h1; subst h2
        simp only [pureOp] at hv
        split at hv <;> first | (cases hv; done) | (rename_i h; cases h; done) | skip
        rename_i n' sz b o k j heq
        injection heq with heq1 heq2; subst heq1; subst heq2
        split at hv
        · rename_i hj
          simp only [forceN_eq] at hv; injection hv with hv; subst hv
          obtain ⟨_, _, he, r1, r2⟩ := hx.two
          simp only [List.map_cons, List.map_nil, List.cons.injEq, and_true] at he; obtain ⟨e1, e2⟩ := he
          rw [← e1] at r1; rw [← e2] at r2
          simp only [VRel] at r1 r2
          obtain ⟨L, hL, hxv⟩ := r1
          refine Gives.of_v ⟨.pointer (some ((⟨L.blk, L.off + o, none⟩ : Addr).add (j.toNat * s))), ?_, ?_⟩
          · simp [Instr.indexAt, r2, asIntOf, run_underlying hu, Instr.sureAddr, hxv, hj.1, hj.2, run_szOf hs]
          · simp only [VRel]
            refine ⟨L, hL, ?_⟩
            unfold Addr.add
            split
            · rename_i h0; simp [h0]
            · simp [Nat.add_assoc]
        · cases hv
      · cases hc
    · rename_i e hu
      split at hc
      · rename_i s hs
        injection hc with hc; injection hc with h1 h2; subst h1; subst h2
        simp only [pureOp] at hv
        split at hv <;> first | (cases hv; done) | (rename_i h; cases h; done) | skip
        rename_i sz b o n c e' k j heq
        injection heq with heq; subst heq
        split at hv
        · rename_i hj
          simp only [forceN_eq] at hv; injection hv with hv; subst hv
          obtain ⟨_, _, he, r1, r2⟩ := hx.two
          simp only [List.map_cons, List.map_nil, List.cons.injEq, and_true] at he; obtain ⟨e1, e2⟩ := he
          rw [← e1] at r1; rw [← e2] at r2
          simp only [VRel] at r1 r2
          obtain ⟨L, ad, cap, i', hL, _, hxv, hncap, hadr, _⟩ := r1
          rw [hadr (by omega)] at hxv
          refine Gives.of_v ⟨.pointer (some ((⟨L.blk, L.off + o, none⟩ : Addr).add (j.toNat * s))), ?_, ?_⟩
          · simp [Instr.indexAt, r2, asIntOf, run_underlying hu, hxv, hj.1, hj.2, run_szOf hs]
          · simp only [VRel]
            refine ⟨L, hL, ?_⟩
            unfold Addr.add
            split
            · rename_i h0; simp [h0]
            · simp [Nat.add_assoc]
        · cases hv
      · cases hc
    · cases hc
  | index t x i =>
    simp only [cOp] at hc
    split at hc
    · rename_i n e hu
      split at hc
      · rename_i k s hk' hs
        injection hc with hc; injection hc with h1 h2; subst h1; subst h2
        simp only [pureOp] at hv
        split at hv <;> first | (cases hv; done) | (rename_i h; cases h; done) | skip
        rename_i n' sz agg c k' j heq
        injection heq with heq1 heq2 heq3; subst heq1; subst heq2
        split at hv
        · rename_i hj
          obtain ⟨_, _, he, r1, r2⟩ := hx.two
          simp only [List.map_cons, List.map_nil, List.cons.injEq, and_true] at he; obtain ⟨e1, e2⟩ := he
          rw [← e1] at r1; rw [← e2] at r2
          simp only [VRel] at r1 r2
          obtain ⟨vs, hxv, hvs⟩ := r1
          refine Gives.of_v ?_
          split at hv
          · split at hv
            · rename_i l hl
              injection hv with hv; subst hv
              have hk2 : ldK P e = some (some s) := by
                cases k with
                | none => simp at heq3
                | some m =>
                  have := (ldK_some hk' w).2
                  rw [run_szOf hs w] at this; injection this with this; rw [this]; exact hk'
              obtain ⟨u, h1, h2⟩ := part_some hk2 hvs hl w
              exact ⟨u, by simp [Instr.index, r2, asIntOf, run_underlying hu, hxv, hj.1, hj.2, run_szOf hs, h1], h2⟩
            · cases hv
          · split at hv
            · rename_i a hl
              injection hv with hv; subst hv
              have hk2 : ldK P e = some none := by
                cases k with
                | none => exact hk'
                | some m => simp at heq3
              obtain ⟨u, h1, h2⟩ := part_none hk2 hvs hl w
              exact ⟨u, by simp [Instr.index, r2, asIntOf, run_underlying hu, hxv, hj.1, hj.2, run_szOf hs, h1], h2⟩
            · cases hv
        · cases hv
      · cases hc
    · rename_i hu
      injection hc with hc; injection hc with h1 h2; subst h1; subst h2
      simp only [pureOp] at hv
      split at hv <;> first | (cases hv; done) | (rename_i h; cases h; done) | skip
      rename_i s k j _
      split at hv
      · rename_i hj
        split at hv
        · rename_i b hb
          simp only [mkInt_eq] at hv; injection hv with hv; subst hv
          obtain ⟨_, _, he, r1, r2⟩ := hx.two
          simp only [List.map_cons, List.map_nil, List.cons.injEq, and_true] at he; obtain ⟨e1, e2⟩ := he
          rw [← e1] at r1; rw [← e2] at r2
          simp only [VRel] at r1 r2
          obtain ⟨str, hxv, hs⟩ := r1
          have hget : str[j.toNat]? = some b := by
            rw [← hs] at hb
            have hlt : j.toNat < str.size := by
              rcases Nat.lt_or_ge j.toNat str.size with h | h
              · exact h
              · simp [List.getElem?_eq_none (show str.data.toList.length ≤ j.toNat by simpa using h)] at hb
            rw [getElem?_pos str j.toNat hlt]
            rw [List.getElem?_eq_getElem (by simpa using hlt)] at hb
            injection hb with hb
            rw [← hb]; rfl
          refine Gives.of_v ⟨.int .u8 b.toNat, ?_, by simp only [VRel]⟩
          simp [Instr.index, r2, asIntOf, run_underlying hu, hxv, hj, hget]
        · cases hv
      · cases hv
    · cases hc
  | extract x i =>
    simp only [cOp] at hc; injection hc with hc; injection hc with h1 h2; subst h1; subst h2
    simp only [pureOp] at hv
    split at hv <;> first | (cases hv; done) | (rename_i h; cases h; done) | skip
    rename_i i' l heq
    injection heq with heq; subst heq
    obtain ⟨_, he, r1⟩ := hx.one
    simp only [List.map_cons, List.map_nil, List.cons.injEq, and_true] at he; rw [← he] at r1
    simp only [VRel] at r1
    obtain ⟨vs, hxv, hvs⟩ := r1
    obtain ⟨u, h1, h2⟩ := hvs.get hv
    refine Gives.of_v ⟨u, ?_, h2⟩
    have h1' : vs[i]? = some u := by simpa using h1
    simp [Instr.extract, hxv, h1']
  | call c =>
    simp only [cOp] at hc
    split at hc
    · injection hc with hc; injection hc with h1 _; subst h1; simp [kd] at hk
    · rename_i b hcal
      obtain ⟨callee, args, argTypes⟩ := c
      simp only at hcal hc; subst hcal
      have hexec : ∀ (s : Sem Value) (u : Value), (∀ cs, builtin b argTypes type cs (args.map ρ) = (do pure (Next.value (← s)))) → s.run P w = .ok u w → VRel P β v u →
          Gives P β (execOp ρ ⟨dst, .call ⟨.builtin b, args, argTypes⟩, type, pos, after, guard⟩) v w := by
        intro s u hb hs hr
        refine ⟨u, ?_, hr⟩
        simp only [execOp, resolve, invoke, Sem.run_bind, Sem.run_pure, Result.andThen_ok, hb, hs]
      have argOne : ∀ {a : AV}, xs = [a] → ∃ x, args = #[x] ∧ VRel P β a (ρ x) := by
        rintro a rfl
        have hys : ys = args.toList := by
          unfold cBuiltin at hc
          (repeat' split at hc) <;> first | (cases hc; done) | (injection hc with hc; injection hc with _ h2; exact h2.symm) | (rename_i hz; split at hz <;> first | cases hz | (injection hz with hz; injection hz with _ h2; exact h2.symm))
        subst hys
        obtain ⟨u, he, r1⟩ := hx.one
        cases hal : args.toList with
        | nil => rw [hal] at he; simp at he
        | cons x r =>
          rw [hal] at he
          cases r with
          | cons y r => simp at he
          | nil =>
            simp only [List.map_cons, List.map_nil, List.cons.injEq, and_true] at he
            exact ⟨x, by apply Array.ext'; rw [hal], he ▸ r1⟩
      have argTwo : ∀ {a a' : AV}, xs = [a, a'] → ∃ x y, args = #[x, y] ∧ VRel P β a (ρ x) ∧ VRel P β a' (ρ y) := by
        rintro a a' rfl
        have hys : ys = args.toList := by
          unfold cBuiltin at hc
          (repeat' split at hc) <;> first | (cases hc; done) | (injection hc with hc; injection hc with _ h2; exact h2.symm) | (rename_i hz; split at hz <;> first | cases hz | (injection hz with hz; injection hz with _ h2; exact h2.symm))
        subst hys
        obtain ⟨u, u', he, r1, r2⟩ := hx.two
        cases hal : args.toList with
        | nil => rw [hal] at he; simp at he
        | cons x r =>
          rw [hal] at he
          cases r with
          | nil => simp at he
          | cons y r =>
            cases r with
            | cons z r => simp at he
            | nil =>
              simp only [List.map_cons, List.map_nil, List.cons.injEq, and_true] at he
              exact ⟨x, y, by apply Array.ext'; rw [hal], he.1 ▸ r1, he.2 ▸ r2⟩
      have ty0 : ∀ {t : TypeId} {r : List TypeId}, argTypes.toList = t :: r → argTypes[0]? = some t := by
        intro t r h
        have : argTypes.toList[0]? = some t := by rw [h]; rfl
        simpa using this
      unfold cBuiltin at hc
      split at hc
      · -- len
        rename_i t r htys
        have ht0 := ty0 htys
        split at hc
        · rename_i hu
          injection hc with hc; injection hc with h1 h2; subst h1
          simp only [pureOp] at hv
          split at hv <;> first | (cases hv; done) | (rename_i h; cases h; done) | skip
          rename_i s _
          simp only [mkInt_eq] at hv; injection hv with hv; subst hv
          obtain ⟨x, rfl, r1⟩ := argOne rfl
          simp only [VRel] at r1
          obtain ⟨str, hxv, hs⟩ := r1
          refine hexec _ (goInt str.size) (fun _ => rfl) ?_ ?_
          · simp [Builtin.len_, ht0, run_underlying hu, hxv]
          · simp only [VRel, goInt]; rw [← hs]; simp
        · rename_i e hu
          injection hc with hc; injection hc with h1 h2; subst h1
          simp only [pureOp] at hv
          split at hv <;> first | (cases hv; done) | (rename_i h; cases h; done) | skip
          · injection hv with hv; subst hv
            obtain ⟨x, rfl, r1⟩ := argOne rfl
            simp only [VRel] at r1
            refine hexec _ (goInt 0) (fun _ => rfl) ?_ ?_
            · simp [Builtin.len_, ht0, run_underlying hu, r1]
            · simp only [VRel, goInt]
          · rename_i b o n c' e' _
            simp only [mkInt_eq] at hv; injection hv with hv; subst hv
            obtain ⟨x, rfl, r1⟩ := argOne rfl
            simp only [VRel] at r1
            obtain ⟨L, ad, cap, i, _, _, hxv, _⟩ := r1
            refine hexec _ (goInt n) (fun _ => rfl) ?_ ?_
            · simp [Builtin.len_, ht0, run_underlying hu, hxv]
            · simp only [VRel, goInt]
        · simp at hc; obtain ⟨h1, h2⟩ := hc; subst h1; simp [kd] at hk
        · rename_i n e hu
          injection hc with hc; injection hc with h1 h2; subst h1
          simp only [pureOp] at hv
          split at hv <;> first | (cases hv; done) | (rename_i h; cases h; done) | skip
          rename_i n' a heq
          injection heq with heq; injection heq with heq; subst heq
          injection hv with hv; subst hv
          obtain ⟨x, rfl, r1⟩ := argOne rfl
          refine hexec _ (goInt n) (fun _ => rfl) ?_ ?_
          · simp only [Builtin.len_, ht0, List.map_toArray, List.map_cons, List.map_nil]
            simp [run_underlying hu]
          · simp only [VRel, goInt]
        · rename_i a hu
          split at hc
          · rename_i n e hu2
            injection hc with hc; injection hc with h1 h2; subst h1
            simp only [pureOp] at hv
            split at hv <;> first | (cases hv; done) | (rename_i h; cases h; done) | skip
            rename_i n' a heq
            injection heq with heq; injection heq with heq; subst heq
            injection hv with hv; subst hv
            obtain ⟨x, rfl, r1⟩ := argOne rfl
            refine hexec _ (goInt n) (fun _ => rfl) ?_ ?_
            · simp only [Builtin.len_, ht0, List.map_toArray, List.map_cons, List.map_nil]
              simp [run_underlying hu, run_underlying hu2]
            · simp only [VRel, goInt]
          · cases hc
        · cases hc
      · -- cap
        rename_i t r htys
        have ht0 := ty0 htys
        split at hc
        · rename_i e hu
          injection hc with hc; injection hc with h1 h2; subst h1
          simp only [pureOp] at hv
          split at hv <;> first | (cases hv; done) | (rename_i h; cases h; done) | skip
          · injection hv with hv; subst hv
            obtain ⟨x, rfl, r1⟩ := argOne rfl
            simp only [VRel] at r1
            refine hexec _ (goInt 0) (fun _ => rfl) ?_ ?_
            · simp [Builtin.cap_, ht0, run_underlying hu, r1]
            · simp only [VRel, goInt]
          · rename_i b o n c' e' _
            injection hv with hv; subst hv
            obtain ⟨x, rfl, r1⟩ := argOne rfl
            simp only [VRel] at r1
            obtain ⟨L, ad, cap, i, _, _, hxv, _, _, _, hcap⟩ := r1
            refine hexec _ (goInt cap) (fun _ => rfl) ?_ ?_
            · simp [Builtin.cap_, ht0, run_underlying hu, hxv]
            · simp only [VRel, goInt]; rw [hcap _ rfl]
        · cases hc
      · -- max
        injection hc with hc; injection hc with h1 h2; subst h1
        simp only [pureOp] at hv
        split at hv <;> first | (cases hv; done) | (rename_i h; cases h; done) | skip
        rename_i k a j b _
        split at hv
        · rename_i hkj
          injection hv with hv; subst hv; subst hkj
          obtain ⟨x, y, rfl, r1, r2⟩ := argTwo rfl
          simp only [VRel] at r1 r2
          refine hexec _ (.int j (if b > a then b else a)) (fun _ => rfl) ?_ (by simp only [VRel])
          simp [Builtin.max_, r1, r2, Builtin.max2]
        · cases hv
      · -- min
        injection hc with hc; injection hc with h1 h2; subst h1
        simp only [pureOp] at hv
        split at hv <;> first | (cases hv; done) | (rename_i h; cases h; done) | skip
        rename_i k a j b _
        split at hv
        · rename_i hkj
          injection hv with hv; subst hv; subst hkj
          obtain ⟨x, y, rfl, r1, r2⟩ := argTwo rfl
          simp only [VRel] at r1 r2
          refine hexec _ (.int j (if b < a then b else a)) (fun _ => rfl) ?_ (by simp only [VRel])
          simp [Builtin.min_, r1, r2, Builtin.min2]
        · cases hv
      all_goals
        (repeat' split at hc) <;> first | (cases hc; done) | (injection hc with hc; injection hc with h1 _; subst h1; simp [kd] at hk)
    · cases hc
  | makeMap t r =>
    cases r with
    | none => simp only [cOp] at hc; injection hc with hc; injection hc with h1 _; subst h1; simp [kd] at hk
    | some r => simp [cOp] at hc
  | next it b =>
    cases b with
    | false => simp only [cOp] at hc; injection hc with hc; injection hc with h1 _; subst h1; simp [kd] at hk
    | true => simp [cOp] at hc
  | _ =>
    simp only [cOp] at hc
    (repeat' split at hc) <;> first | (cases hc; done) | (injection hc with hc; injection hc with h1 _; subst h1; simp [kd] at hk)

end
end Go.AE
