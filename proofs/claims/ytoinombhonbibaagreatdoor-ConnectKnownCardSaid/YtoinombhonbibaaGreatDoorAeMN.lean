/-
  Steps of the machine, with rounds; results of a function; calls; a step over a map.
-/
import Derived.Test.YtoinombhonbibaaGreatDoorAeL
import Derived.Control
import Derived.Calls
set_option linter.unusedSimpArgs false
set_option linter.unusedVariables false
set_option linter.unusedSectionVars false
namespace Go.AE

def Fx (fn : FuncId) (rd : Option Nat) (t : Array Value) (ds : List Deferred) (k : List Item) : Frame :=
  { fn, tmps := t, todo := k, defers := ds, mode := .run, kind := .normal, roundOf := rd }

theorem Fx_eval (fn : FuncId) (rd : Option Nat) (t : Array Value) (ds : List Deferred) (k : List Item) : (Fx fn rd t ds k).eval = (Act.mk t ds).eval := by
  funext x; cases x <;> rfl

def Closed (P : Program) (G : Machine → Prop) : Prop := ∀ m m', step P m = .next m' → G m' → G m

/-- G holds wherever the next step is m's. -/
def Fwd (P : Program) (G : Machine → Prop) (m : Machine) : Prop := ∀ m₁, step P m₁ = step P m → G m₁

section
variable {P : Program} {G : Machine → Prop} {fn : FuncId} {rd : Option Nat} {t : Array Value} {ds : List Deferred} {k : List Item} {cs : List Frame} {w : World}

theorem Fwd.of_step (hG : Closed P G) {m m' : Machine} (h : step P m = .next m') (h' : Fwd P G m') : Fwd P G m := fun m₁ h₁ => hG m₁ m' (h₁.trans h) (h' m' rfl)
theorem Fwd.here {m : Machine} (h : Fwd P G m) : G m := h m rfl
theorem Fwd.of_eq {m m' : Machine} (h : step P m = step P m') (h' : Fwd P G m') : Fwd P G m := fun m₁ h₁ => h' m₁ (h₁.trans h)

theorem st_skip : step P (lone (Fx fn rd t ds (.code .skip :: k)) cs w) = .next (lone (Fx fn rd t ds k) cs w) :=
  step_lone_go (by simp [stepG, stepG.exec, Fx])
theorem st_inBlock {id : Nat} : step P (lone (Fx fn rd t ds (.inBlock id :: k)) cs w) = .next (lone (Fx fn rd t ds k) cs w) :=
  step_lone_go (by simp [stepG, stepG.exec, Fx])
theorem st_seq {x y : Code} : step P (lone (Fx fn rd t ds (.code (.seq x y) :: k)) cs w) = .next (lone (Fx fn rd t ds (.code x :: .code y :: k)) cs w) :=
  step_lone_go (by simp [stepG, stepG.exec, Fx])
theorem st_cond {c : Operand} {x y : Code} {b : Bool} (h : (Act.mk t ds).eval c = .bool b) :
    step P (lone (Fx fn rd t ds (.code (.cond c x y) :: k)) cs w) = .next (lone (Fx fn rd t ds (.code (if b then x else y) :: k)) cs w) :=
  step_lone_go (by
    have := congrFun (Fx_eval fn rd t ds (.code (.cond c x y) :: k)) c
    simp only [Fx] at this
    simp [stepG, stepG.exec, Fx, this, h])
theorem st_block {id : Nat} {c : Code} : step P (lone (Fx fn rd t ds (.code (.block id c) :: k)) cs w) = .next (lone (Fx fn rd t ds (.code c :: .inBlock id :: k)) cs w) :=
  step_lone_go (by simp [stepG, stepG.exec, Fx])
theorem st_loop {c : Code} : step P (lone (Fx fn rd t ds (.code (.loop c) :: k)) cs w) = .next (lone (Fx fn rd t ds (.code c :: .inLoop c :: k)) cs w) :=
  step_lone_go (by simp [stepG, stepG.exec, Fx])
theorem st_inLoop {c : Code} : step P (lone (Fx fn rd t ds (.inLoop c :: k)) cs w) = .next (lone (Fx fn rd t ds (.code c :: .inLoop c :: k)) cs w) :=
  step_lone_go (by simp [stepG, stepG.exec, Fx])
theorem st_exit {id : Nat} {k' : List Item} (h : exitTo id k = some k') : step P (lone (Fx fn rd t ds (.code (.exit id) :: k)) cs w) = .next (lone (Fx fn rd t ds k') cs w) :=
  step_lone_go (by simp [stepG, stepG.exec, Fx, h])
theorem st_ret : step P (lone (Fx fn none t ds (.code .ret :: k)) cs w) = .next (lone { Fx fn none t ds (.code .ret :: k) with mode := .returning } cs w) :=
  step_lone_go (by simp [stepG, stepG.exec, Fx])
theorem st_end : step P (lone (Fx fn none t ds []) cs w) = .next (lone { Fx fn none t ds [] with mode := .returning } cs w) :=
  step_lone_go (by simp [stepG, stepG.exec, Fx])
theorem st_reg {id : Nat} {ops : Array Oper} : step P (lone (Fx fn rd t ds (.code (.region id ops false) :: k)) cs w) = .next (lone (Fx fn rd t ds (.inRegion ops (List.range ops.size) :: k)) cs w) :=
  step_lone_go (by simp [stepG, stepG.exec, Fx])
theorem st_dreg {id : Nat} {ops : Array Oper} : step P (lone (Fx fn rd t ds (.code (.region id ops true) :: k)) cs w) =
    .next (lone (Fx fn rd t ds (.inRegion ops (Region.schedule (P.follows .mixedOrders) ops (w.tape w.drawn (.order fn id))) :: k)) cs { w with drawn := w.drawn + 1 }) :=
  step_lone_go (by simp [stepG, stepG.exec, Fx, choose, Sem.run, Question.forced, Question.cut])
theorem st_regEnd {ops : Array Oper} : step P (lone (Fx fn rd t ds (.inRegion ops [] :: k)) cs w) = .next (lone (Fx fn rd t ds k) cs w) :=
  step_lone_go (by simp [stepG, stepG.exec, Fx])
theorem st_opSkip {ops : Array Oper} {i : Nat} {rest : List Nat} (h : ((ops[i]?).map (Region.wanted · (yielded ops t))).getD false = false) :
    step P (lone (Fx fn rd t ds (.inRegion ops (i :: rest) :: k)) cs w) = .next (lone ((Fx fn rd t ds (.inRegion ops (i :: rest) :: k)).finish undef) cs w) :=
  step_lone_go (by simp only [Fx] at *; simp [stepG, stepG.exec, h])

theorem Fx_finish {ops : Array Oper} {i : Nat} {rest : List Nat} {o : Oper} (ho : ops[i]? = some o) (v : Value) :
    (Fx fn rd t ds (.inRegion ops (i :: rest) :: k)).finish v = Fx fn rd ((Act.mk t ds).put o.dst v).tmps ds (.inRegion ops rest :: k) := by
  cases h : o.dst <;> simp [Frame.finish, Fx, Act.put, ho, h]

theorem stG_op {ops : Array Oper} {i : Nat} {rest : List Nat} {o : Oper} (ho : ops[i]? = some o) (hw : Region.wanted o (yielded ops t) = true) (hd : ∀ c, o.op ≠ .defer c) :
    stepG P true { frame := Fx fn rd t ds (.inRegion ops (i :: rest) :: k), callers := cs, status := .running, dying := none } w =
      stepG.apply P true (Fx fn rd t ds (.inRegion ops (i :: rest) :: k)) cs none (execOp (Act.mk t ds).eval o) w := by
  have he := Fx_eval fn rd t ds (.inRegion ops (i :: rest) :: k)
  simp only [Fx] at he
  simp [stepG, stepG.exec, stepG.oper, Frame.oper?, Fx, ho, hw, he]
  split
  · rename_i h; exact absurd h (hd _)
  · rfl

theorem exit_pass {id : Nat} {x : Item} (hx : exitTo id (x :: k) = exitTo id k) :
    step P (lone (Fx fn rd t ds (.code (.exit id) :: x :: k)) cs w) = step P (lone (Fx fn rd t ds (.code (.exit id) :: k)) cs w) := by
  rw [step, stepT, move_lone, step, stepT, move_lone]
  simp only [runT, lone, Array.swapAt!]
  cases he : exitTo id k with
  | some k' => simp [stepG, stepG.exec, Fx, hx, he, GStep.bare]
  | none =>
    simp [stepG, stepG.exec, Fx, hx, he]
    cases rd with
    | none => simp [Frame.pos, Frame.oper?]
    | some l =>
      simp [Frame.pos, Frame.oper?]
      cases (Instr.endRound l (some (.exit id))).run P w with
      | ok v w =>
        cases cs with
        | cons c cs => simp [doReturn, GStep.after]
        | nil =>
          simp only [doReturn]
          cases P.inits.idxOf? fn <;> simp [GStep.after]
      | halt x w => simp [GStep.after]
end
end Go.AE

/-
  A step over a map; a function's results; calls.
-/
namespace Go.AE

section
variable {P : Program} {β : Inj} {w w0 : World} {prv : List (Nat × Obj)} {H H' : Heap}

theorem ERels.filter {p : AV × AV × Nat → Bool} {p' : MapEntry → Bool} (hp : ∀ e x, x.born = e.2.2 → p' x = p e) : ∀ {es : List (AV × AV × Nat)} {en : List MapEntry}, ERels P β es en → ERels P β (es.filter p) (en.filter p')
  | [], en, h => by simp only [ERels] at h; subst h; simp [ERels]
  | e :: r, en, h => by
    simp only [ERels] at h
    obtain ⟨x, en', rfl, h2, h3, h4, h5⟩ := h
    have ih := ERels.filter hp h5
    simp only [List.filter_cons, hp e x h4]
    split
    · simp only [ERels]; exact ⟨x, _, rfl, h2, h3, h4, ih⟩
    · exact ih

theorem ERels.born_lt : ∀ {es : List (AV × AV × Nat)} {en : List MapEntry} {c : Nat}, ERels P β es en → (∀ e ∈ es, e.2.2 < c) → ∀ x ∈ en, x.born < c
  | [], en, c, h, _ => by simp only [ERels] at h; subst h; simp
  | e :: r, en, c, h, hl => by
    simp only [ERels] at h
    obtain ⟨x, en', rfl, h2, h3, h4, h5⟩ := h
    intro y hy
    rcases List.mem_cons.1 hy with rfl | hy
    · rw [h4]; exact hl e (by simp)
    · exact ERels.born_lt h5 (fun e he => hl e (by simp [he])) y hy

theorem ERels.get' : ∀ {es : List (AV × AV × Nat)} {en : List MapEntry} {i : Nat} {x : MapEntry}, ERels P β es en → en[i]? = some x → ∃ e, es[i]? = some e ∧ VRel P β e.1 x.key ∧ VRel P β e.2.1 x.val ∧ x.born = e.2.2
  | [], en, i, x, h, hi => by simp only [ERels] at h; subst h; simp at hi
  | e :: r, en, i, x, h, hi => by
    simp only [ERels] at h
    obtain ⟨y, en', rfl, h2, h3, h4, h5⟩ := h
    cases i with
    | zero => simp at hi; subst hi; exact ⟨e, by simp, h2, h3, h4⟩
    | succ i => simpa using ERels.get' h5 (by simpa using hi)

theorem next_sound (hR : Rel P w0 prv β H w) {it : Nat} {K : AV → Heap → Prop} (h : nextWp it H K) (ty : TypeId) :
    ∃ L, β it = some L ∧ ∀ lo, ∃ v H' w' u, K v H' ∧ (Instr.next (.pointer (some ⟨L.blk, 0, lo⟩)) false ty).run P w = .ok u w' ∧ Evo H H' ∧ Rel P w0 prv β H' w' ∧ VRel P β v u := by
  unfold nextWp at h
  split at h
  · rename_i m clock seen hit
    split at h
    · rename_i es c' hma
      split at h
      · rename_i hcc
        subst hcc
        obtain ⟨LI, hLI, hO⟩ := hR.obj it _ hit
        have hO' := hO
        simp only [ORel] at hO
        obtain ⟨M, hM, hiter, hoff⟩ := hO
        obtain ⟨L, en, hL, hheap, hER, hpw, hlt, hget⟩ := mapAt_run hR hma
        rw [hM] at hL; injection hL with hL; subst hL
        refine ⟨LI, hLI, fun lo => ?_⟩
        have hnc : ∀ c t f, Obj.map en c' ≠ .cells c t f := by rintro _ _ _ h; cases h
        have hni : ∀ c t f, Obj.mapIter (some M.blk) c' seen.toArray c' ≠ .cells c t f := by rintro _ _ _ h; cases h
        have hbl := hER.born_lt hlt
        have hFl : ERels P β (es.filter fun e => !seen.contains e.2.2) (en.filter fun e => !seen.toArray.contains e.born).toList := by
          rw [Array.toList_filter]
          exact hER.filter (fun e x hx => by simp [hx])
        have hguard : (!seen.toArray.isEmpty && !en.isEmpty && en.all (fun x => decide (x.born ≥ c'))) = false := by
          cases hen : en.toList with
          | nil => simp [show en = #[] from by rw [← Array.toArray_toList (xs := en), hen]]
          | cons x r =>
            have hx := hbl x (by simp [hen])
            have : en.all (fun x => decide (x.born ≥ c')) = false := by
              rw [← Array.all_toList, hen]
              have : decide (x.born ≥ c') = false := by simpa using hx
              simp [this]
            rw [this]; simp
        generalize hleft : (en.filter fun e => !seen.toArray.contains e.born) = left at hFl
        have hlb : ∀ x ∈ left.toList, x.born < c' := fun x hx => hbl x (by
          rw [← hleft, Array.toList_filter] at hx; exact (List.mem_filter.1 hx).1)
        have hold : left.filter (fun e => decide (e.born < c')) = left := by
          apply Array.ext'
          rw [Array.toList_filter]
          exact List.filter_eq_self.2 (fun x hx => by simpa using hlb x hx)
        have hnew : left.filter (fun e => decide (e.born ≥ c')) = #[] := by
          apply Array.ext'
          rw [Array.toList_filter]
          exact List.filter_eq_nil_iff.2 (fun x hx => by simpa using hlb x hx)
        split at h
        · rename_i hnil
          rw [hnil] at hFl
          simp only [ERels] at hFl
          have hl : left = #[] := by rw [← Array.toArray_toList (xs := left), hFl]
          refine ⟨_, H, w, .tuple #[.bool false], h, ?_, Evo.refl H, hR, by simp [VRel, VRels]⟩
          unfold Instr.next
          simp only [Sem.run_bind, run_getObj' hiter hni, Result.andThen_ok, run_getObj' hheap hnc, hguard, hleft, hl]
          simp [choose, Sem.run, Question.forced]
        · rename_i x0 r hcons
          rw [hcons] at hFl
          have hne : left.isEmpty = false := by
            have := hFl.length
            rw [Array.length_toList] at this
            rw [Array.isEmpty, this]; simp
          have hsz : 0 < left.size := by
            have := hFl.length
            rw [Array.length_toList] at this
            rw [this]; simp
          have hidx : ∃ j, j < left.size ∧ ∃ n, (choose (.mapNext left.size)).run P w = .ok j { w with drawn := n } := by
            simp only [choose, Sem.run, Question.forced]
            by_cases hle : left.size ≤ 1
            · exact ⟨0, hsz, w.drawn, by simp [hle]⟩
            · exact ⟨(w.tape w.drawn (.mapNext left.size)) % left.size, Nat.mod_lt _ hsz, w.drawn + 1, by simp [hle, Question.cut]⟩
          obtain ⟨j, hj, n, hch⟩ := hidx
          have hx : left.toList[j]? = some left[j] := by simp [hj]
          obtain ⟨e, hes, r1, r2, r3⟩ := hFl.get' hx
          have hmem : e ∈ x0 :: r := List.mem_of_getElem? hes
          have hiter' : ({ w with drawn := n } : World).heap[LI.blk]? = some (.mapIter (some M.blk) c' seen.toArray c') := hiter
          refine ⟨_, _, _, .tuple #[.bool true, left[j].key, left[j].val], h e hmem, ?_, ?_, (hR.drew n).setObj (o' := .iter m c' (seen ++ [e.2.2])) hit rfl hLI (.mapIter (some M.blk) c' (seen.toArray.push left[j].born) c') ?_, ?_⟩
          · unfold Instr.next
            simp only [Sem.run_bind, run_getObj' hiter hni, Result.andThen_ok, run_getObj' hheap hnc, hguard, hleft, hold, hnew]
            simp only [Bool.false_eq_true, if_false, hne, Array.empty_append, Array.append_empty, Array.size_map, Sem.run_bind, hch, Result.andThen_ok, Array.getElem?_map, Array.getElem?_eq_getElem hj, Option.map_some,
              run_setObj' hiter' hni, Sem.run_pure]
          · exact ⟨Nat.le_refl _, fun k _ hk => by
              rw [Heap.get_set, if_neg (by rintro rfl; rw [hit] at hk; cases hk)]; exact hk⟩
          · intro w' hw'
            simp only [ORel]
            exact ⟨M, hM, by rw [hw', r3]; simp, hoff⟩
          · simp only [VRel, VRels]
            exact ⟨_, rfl, _, _, rfl, rfl, _, _, rfl, r1, _, _, rfl, r2, rfl⟩
      · exact h.elim
    · exact h.elim
  · exact h.elim

/-! ### Results -/
def resFn (t : Array Value) : ResultVar → Sem Value
  | .tmp x => pure (t.getD x undef)
  | .cell a ty => do loadVar ty (← asAddr (t.getD a undef))

theorem results_eq (fn : Func) (t : Array Value) : results fn t = (do
    let vs ← fn.results.mapM (resFn t)
    pure (if h : vs.size = 1 then vs[0] else .tuple vs)) := by
  have : (fun | .tmp x => pure (t.getD x undef) | .cell a ty => do loadVar ty (← asAddr (t.getD a undef)) : ResultVar → Sem Value) = resFn t := by
    funext r; cases r <;> rfl
  rw [← this]; rfl

theorem results_list (hR : Rel P w0 prv β H w) {N : Nat} {e : Env} {t : Array Value} (hE : EnvRel P β N e t) : ∀ {rs : List ResultVar} {is : List ResV} {vs : List AV}, rs.mapM (cRes P) = some is → resultsL e H is = some vs →
    ∃ us : List Value, (rs.mapM (resFn t)).run P w = .ok us w ∧ VRels P β vs us
  | [], is, vs, h1, h2 => by
    simp at h1; subst h1
    simp [resultsL] at h2; subst h2
    exact ⟨[], by simp, by simp [VRels]⟩
  | r :: rs, is, vs, h1, h2 => by
    simp only [List.mapM_cons] at h1
    cases hr : cRes P r with
    | none => rw [hr] at h1; simp at h1
    | some i =>
      rw [hr] at h1
      cases hrs : rs.mapM (cRes P) with
      | none => rw [hrs] at h1; simp at h1
      | some is' =>
        rw [hrs] at h1; simp at h1; subst h1
        simp only [resultsL] at h2
        split at h2
        · rename_i v hv
          split at h2
          · rename_i l hl
            injection h2 with h2; subst h2
            obtain ⟨us, hus, hrel⟩ := results_list hR hE hrs hl
            have : ∃ u, ((resFn t) r).run P w = .ok u w ∧ VRel P β v u := by
              cases r with
              | tmp x =>
                simp only [cRes] at hr; injection hr with hr; subst hr
                simp only [resultOf] at hv
                exact ⟨_, by simp [resFn], hE.2 _ _ hv⟩
              | cell a ty =>
                simp only [cRes] at hr
                split at hr
                · rename_i k hk
                  injection hr with hr; subst hr
                  simp only [resultOf] at hv
                  split at hv
                  · rename_i b o hg
                    have hp := hE.2 _ _ hg
                    simp only [VRel] at hp
                    obtain ⟨L, hL, hp⟩ := hp
                    obtain ⟨L', u, hL', hrun, hrel⟩ := load_run hR hk hv
                    rw [hL] at hL'; injection hL' with hL'; subst hL'
                    exact ⟨u, by simp [resFn, hp, asAddr, hrun], hrel⟩
                  · cases hv
                · cases hr
            obtain ⟨u, hu, hur⟩ := this
            refine ⟨u :: us, ?_, by simp only [VRels]; exact ⟨u, us, rfl, hur, hrel⟩⟩
            simp only [List.mapM_cons, Sem.run_bind, hu, Result.andThen_ok, hus, Sem.run_pure]
          · cases h2
        · cases h2

theorem results_run (hR : Rel P w0 prv β H w) {N : Nat} {e : Env} {t : Array Value} (hE : EnvRel P β N e t) {fn : Func} {is : List ResV} (hc : fn.results.toList.mapM (cRes P) = some is) {v : AV} (hv : resultsA e H is = some v) :
    ∃ u, (results fn t).run P w = .ok u w ∧ VRel P β v u := by
  unfold resultsA at hv
  have key : ∀ {vs : List AV}, resultsL e H is = some vs → ∃ us : List Value, (results fn t).run P w = .ok (if h : us.toArray.size = 1 then us.toArray[0] else .tuple us.toArray) w ∧ VRels P β vs us := by
    intro vs hvs
    obtain ⟨us, h1, h2⟩ := results_list hR hE hc hvs
    refine ⟨us, ?_, h2⟩
    rw [results_eq, Array.mapM_eq_mapM_toList]
    simp only [map_eq_pure_bind, Sem.run_bind, h1, Result.andThen_ok, Sem.run_pure]
  split at hv
  · rename_i v' hl
    injection hv with hv; subst hv
    obtain ⟨us, h1, h2⟩ := key hl
    obtain ⟨u, rfl, hu⟩ := h2.one
    exact ⟨u, by rw [h1]; simp, hu⟩
  · rename_i l hne hl
    injection hv with hv; subst hv
    obtain ⟨us, h1, h2⟩ := key hl
    have hlen := h2.length
    refine ⟨.tuple us.toArray, ?_, by simp only [VRel]; exact ⟨_, rfl, h2⟩⟩
    rw [h1, dif_neg]
    intro h
    simp only [List.size_toArray] at h
    rw [h] at hlen
    cases l with
    | nil => simp at hlen
    | cons a r => cases r with
      | nil => exact hne a rfl
      | cons b r => simp at hlen
  · cases hv
end
end Go.AE
