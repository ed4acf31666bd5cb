/- The abstract machine, by weakest preconditions. -/
import Derived.Test.YtddpkbicnolafaaGreatAy22
namespace Go.Ay

def onSome {α : Type} (o : Option α) (K : α → Prop) : Prop := ∃ a, o = some a ∧ K a
theorem onSome_some {α : Type} (a : α) (K : α → Prop) : onSome (some a) K = K a := propext ⟨fun ⟨_, h, k⟩ => by cases h; exact k, fun k => ⟨a, rfl, k⟩⟩
theorem onSome_congr {α : Type} {o o' : Option α} {K : α → Prop} (h : o = o') : onSome o K = onSome o' K := by rw [h]
section
variable (p : Nat → Option Fn)

def Ev (g : Nat) (args : List V) (h : H) (Q : V → H → Prop) : Prop := ∃ N f v h', (lev p N f).1 g args h = some (v, h') ∧ Q v h'
def Ey (id : Nat) (args : List V) (h : H) (Q : V → H → Prop) : Prop := ∃ N f v h', (lev p N f).2 id args h = some (v, h') ∧ Q v h'
def EvA (vars loc : List V) (h : H) (a : Act1) (Q : V → H → Prop) : Prop := ∃ N f v h', evAct (lev p N f).1 (lev p N f).2 vars loc h a = some (v, h') ∧ Q v h'
def WpI (its : List It) (vars loc : List V) (h : H) (Q : List V → H → Prop) : Prop := ∃ N f vars' h', evIts (lev p N f).1 (lev p N f).2 its vars loc h = some (vars', h') ∧ Q vars' h'
def WpA (base : Nat) (xs : List AI) (vars : List V) (log : Log) (h : H) (Q : List V → H → Prop) : Prop := ∃ N f vars' h', evAny (lev p N f).1 (lev p N f).2 base xs vars log h = some (vars', h') ∧ Q vars' h'
def Wp (rd : Option Nat) (c : C) (vars : List V) (h : H) (Q : E → List V → H → Prop) : Prop :=
  ∃ N f e vars' h', run (lev p N f).1 (lev p N f).2 N rd c vars h = some (e, vars', [], h') ∧ Q e vars' h'

variable {p}

theorem Ev.mono {g : Nat} {args : List V} {h : H} {Q R : V → H → Prop} (e : Ev p g args h Q) (k : ∀ v h', Q v h' → R v h') : Ev p g args h R := by
  obtain ⟨N, f, v, h', e, q⟩ := e; exact ⟨N, f, v, h', e, k _ _ q⟩
theorem Ey.mono {id : Nat} {args : List V} {h : H} {Q R : V → H → Prop} (e : Ey p id args h Q) (k : ∀ v h', Q v h' → R v h') : Ey p id args h R := by
  obtain ⟨N, f, v, h', e, q⟩ := e; exact ⟨N, f, v, h', e, k _ _ q⟩
theorem Wp.mono {rd : Option Nat} {c : C} {vars : List V} {h : H} {Q R : E → List V → H → Prop} (e : Wp p rd c vars h Q) (k : ∀ e v h', Q e v h' → R e v h') : Wp p rd c vars h R := by
  obtain ⟨N, f, a, v, h', e, q⟩ := e; exact ⟨N, f, a, v, h', e, k _ _ _ q⟩
theorem WpI.mono {its : List It} {vars loc : List V} {h : H} {Q R : List V → H → Prop} (e : WpI p its vars loc h Q) (k : ∀ v h', Q v h' → R v h') : WpI p its vars loc h R := by
  obtain ⟨N, f, v, h', e, q⟩ := e; exact ⟨N, f, v, h', e, k _ _ q⟩

/-! congruence: only the state is looked at -/
theorem Ev_congr {g : Nat} {a a' : List V} {h h' : H} {Q : V → H → Prop} (e1 : a = a') (e2 : h = h') : Ev p g a h Q = Ev p g a' h' Q := by rw [e1, e2]
theorem Ey_congr {g : Nat} {a a' : List V} {h h' : H} {Q : V → H → Prop} (e1 : a = a') (e2 : h = h') : Ey p g a h Q = Ey p g a' h' Q := by rw [e1, e2]
theorem EvA_congr {a : Act1} {v v' l l' : List V} {h h' : H} {Q : V → H → Prop} (e1 : v = v') (e3 : l = l') (e2 : h = h') : EvA p v l h a Q = EvA p v' l' h' a Q := by rw [e1, e2, e3]
theorem WpI_congr {its : List It} {v v' l l' : List V} {h h' : H} {Q : List V → H → Prop} (e1 : v = v') (e3 : l = l') (e2 : h = h') : WpI p its v l h Q = WpI p its v' l' h' Q := by rw [e1, e2, e3]
theorem WpA_congr {base base' : Nat} {xs : List AI} {v v' : List V} {l : Log} {h h' : H} {Q : List V → H → Prop} (e0 : base = base') (e1 : v = v') (e2 : h = h') : WpA p base xs v l h Q = WpA p base' xs v' l h' Q := by rw [e0, e1, e2]
theorem Wp_congr {rd : Option Nat} {c : C} {v v' : List V} {h h' : H} {Q : E → List V → H → Prop} (e1 : v = v') (e2 : h = h') : Wp p rd c v h Q = Wp p rd c v' h' Q := by rw [e1, e2]

def iteW (p : Nat → Option Fn) (rd : Option Nat) (a b : C) (vars : List V) (h : H) (Q : E → List V → H → Prop) (v : V) : Prop := match v with | .bool true => Wp p rd a vars h Q | .bool false => Wp p rd b vars h Q | _ => False
section
variable {rd : Option Nat} {a b : C} {vars : List V} {h : H} {Q : E → List V → H → Prop}
theorem iteW_congr {v v' : V} (e : v = v') : iteW p rd a b vars h Q v = iteW p rd a b vars h Q v' := by rw [e]
theorem iteW_true : iteW p rd a b vars h Q (.bool true) = Wp p rd a vars h Q := rfl
theorem iteW_false : iteW p rd a b vars h Q (.bool false) = Wp p rd b vars h Q := rfl
theorem iteW_not {t : Bool} : iteW p rd a b vars h Q (.bool (!t)) = iteW p rd b a vars h Q (.bool t) := by cases t <;> rfl
end

def unc (K : V → H → Prop) : V × H → Prop := fun r => K r.1 r.2
theorem unc_mk (K : V → H → Prop) (v : V) (h : H) : unc K (v, h) = K v h := rfl
/-- What comes behind an item. -/
def itsK (p : Nat → Option Fn) (d : D) (its : List It) (vars loc : List V) (Q : List V → H → Prop) : V → H → Prop := fun v h' => WpI p its (putV d vars loc v).1 (putV d vars loc v).2 h' Q
theorem itsK_mk (d : D) (its : List It) (vars loc : List V) (Q : List V → H → Prop) (v : V) (h' : H) : itsK p d its vars loc Q v h' = WpI p its (putV d vars loc v).1 (putV d vars loc v).2 h' Q := rfl
/-- An item under a guard. -/
def caseW (p : Nat → Option Fn) (d : D) (a : Act1) (its : List It) (vars loc : List V) (h : H) (Q : List V → H → Prop) (w : Bool) : Prop := match w with
  | true => EvA p vars loc h a (itsK p d its vars loc Q)
  | false => WpI p its (putV d vars loc .undef).1 (putV d vars loc .undef).2 h Q
section
variable {d : D} {a : Act1} {its : List It} {vars loc : List V} {h : H} {Q : List V → H → Prop}
theorem caseW_congr {v v' : Bool} (e : v = v') : caseW p d a its vars loc h Q v = caseW p d a its vars loc h Q v' := by rw [e]
theorem caseW_true : caseW p d a its vars loc h Q true = EvA p vars loc h a (itsK p d its vars loc Q) := rfl
theorem caseW_false : caseW p d a its vars loc h Q false = WpI p its (putV d vars loc .undef).1 (putV d vars loc .undef).2 h Q := rfl
end
/-- What comes behind an item of a drawn region. -/
def anyK (p : Nat → Option Fn) (base : Nat) (x : AI) (xs : List AI) (vars : List V) (log : Log) (Q : List V → H → Prop) : V → H → Prop := fun v h' => okLog x.cks log h' = true ∧ WpA p base xs (putV x.it.d vars [] v).1 (logV x vars v log) h' Q
theorem anyK_mk (base i : Nat) (d : D) (g : Option (X × Bool)) (a : Act1) (al : Bool) (cks : List Nat) (xs : List AI) (vars : List V) (log : Log) (Q : List V → H → Prop) (v : V) (h' : H) : anyK p base ⟨i, ⟨d, g, a⟩, al, cks⟩ xs vars log Q v h' = (okLog cks log h' = true ∧ WpA p base xs (putV d vars [] v).1 (logV ⟨i, ⟨d, g, a⟩, al, cks⟩ vars v log) h' Q) := rfl
def caseA (p : Nat → Option Fn) (base i : Nat) (d : D) (x : X) (b : Bool) (a : Act1) (al : Bool) (cks : List Nat) (xs : List AI) (vars : List V) (log : Log) (h : H) (Q : List V → H → Prop) (w : Bool) : Prop := match w, al with
  | true, true => onSome (evAt vars h (base + i) a) (unc (anyK p base ⟨i, ⟨d, some (x, b), a⟩, true, cks⟩ xs vars log Q))
  | true, false => EvA p vars [] h a (anyK p base ⟨i, ⟨d, some (x, b), a⟩, false, cks⟩ xs vars log Q)
  | false, _ => okLog cks log h = true ∧ WpA p base xs (putV d vars [] .undef).1 log h Q
section
variable {base i : Nat} {d : D} {x : X} {b al : Bool} {a : Act1} {cks : List Nat} {xs : List AI} {vars : List V} {log : Log} {h : H} {Q : List V → H → Prop}
theorem caseA_congr {v v' : Bool} (e : v = v') : caseA p base i d x b a al cks xs vars log h Q v = caseA p base i d x b a al cks xs vars log h Q v' := by rw [e]
theorem caseA_tt : caseA p base i d x b a true cks xs vars log h Q true = onSome (evAt vars h (base + i) a) (unc (anyK p base ⟨i, ⟨d, some (x, b), a⟩, true, cks⟩ xs vars log Q)) := rfl
theorem caseA_tf : caseA p base i d x b a false cks xs vars log h Q true = EvA p vars [] h a (anyK p base ⟨i, ⟨d, some (x, b), a⟩, false, cks⟩ xs vars log Q) := rfl
theorem caseA_f : caseA p base i d x b a al cks xs vars log h Q false = (okLog cks log h = true ∧ WpA p base xs (putV d vars [] .undef).1 log h Q) := rfl
end

theorem big (p : Nat → Option Fn) {N N' f f' : Nat} (h1 : N ≤ N') (h2 : f ≤ f') : Le (lev p N f).1 (lev p N' f').1 ∧ Le (lev p N f).2 (lev p N' f').2 := lev_mono p h1 f f' h2

/-! items -/
theorem EvA_op (vars loc : List V) (h : H) (i : I) (Q : V → H → Prop) : EvA p vars loc h (.op i) Q = onSome (evI (xv vars loc) h i) (unc Q) := by
  unfold EvA onSome
  refine propext ⟨fun ⟨N, f, v, h', e, q⟩ => ⟨(v, h'), by rw [evAct_op] at e; exact e, q⟩, fun ⟨r, e, q⟩ => ⟨0, 0, r.1, r.2, by rw [evAct_op]; exact e, q⟩⟩
theorem EvA_call (vars loc : List V) (h : H) (g : Nat) (args : List X) (Q : V → H → Prop) : EvA p vars loc h (.call g args) Q = Ev p g (args.map (xv vars loc)) h Q := by
  unfold EvA Ev
  simp only [evAct_call]
/-- A value that is called. -/
def callP (p : Nat → Option Fn) (x : V) (args : List V) (h : H) (Q : V → H → Prop) : Prop := match x with
  | .fn g fs cs => Ev p g (fs ++ args ++ cs) h Q
  | .yl id => Ey p id args h Q
  | _ => False
theorem callP.mono {x : V} {args : List V} {h : H} {Q R : V → H → Prop} (e : callP p x args h Q) (k : ∀ v h', Q v h' → R v h') : callP p x args h R := by
  unfold callP at *
  split at e
  · exact e.mono k
  · exact e.mono k
  · exact e.elim
theorem callP_congr {x x' : V} {a a' : List V} {h h' : H} {Q : V → H → Prop} (e0 : x = x') (e1 : a = a') (e2 : h = h') : callP p x a h Q = callP p x' a' h' Q := by rw [e0, e1, e2]
theorem callP_fn (g : Nat) (fs cs args : List V) (h : H) (Q : V → H → Prop) : callP p (.fn g fs cs) args h Q = Ev p g (fs ++ args ++ cs) h Q := rfl
theorem callP_yl (id : Nat) (args : List V) (h : H) (Q : V → H → Prop) : callP p (.yl id) args h Q = Ey p id args h Q := rfl
theorem EvA_callv (vars loc : List V) (h : H) (x : X) (args : List X) (Q : V → H → Prop) : EvA p vars loc h (.callv x args) Q = callP p (xv vars loc x) (args.map (xv vars loc)) h Q := by
  unfold EvA
  simp only [evAct_callv]
  unfold callP
  cases xv vars loc x <;> simp [Ev, Ey]

/-- A call of numbers that gives a number. -/
def callpP (p : Nat → Option Fn) (g : Nat) (vs : List V) (h : H) (Q : V → H → Prop) : Prop := vs.all V.scal = true ∧ Ev p g vs ⟨.lf, 0⟩ (fun v _ => v.scal = true ∧ Q v h)
theorem EvA_callp (vars loc : List V) (h : H) (g : Nat) (args : List X) (Q : V → H → Prop) : EvA p vars loc h (.callp g args) Q = callpP p g (args.map (xv vars loc)) h Q := by
  unfold EvA callpP Ev
  refine propext ⟨fun ⟨N, f, v, h', e, q⟩ => ?_, fun ⟨h1, N, f, v, h', e, h2, q⟩ => ⟨N, f, v, h, ?_, q⟩⟩
  · rw [evAct_callp] at e
    obtain ⟨rfl, h1, h2, h3, h4⟩ := pureC_some e
    exact ⟨h1, N, f, v, h3, h4, h2, q⟩
  · rw [evAct_callp]
    unfold pureC
    simp only [h1, e, h2, cond_true]
theorem callpP.intro {g : Nat} {vs : List V} {h : H} {Q R : V → H → Prop} (e : Ev p g vs ⟨.lf, 0⟩ R) (h1 : vs.all V.scal = true) (k : ∀ v h', R v h' → v.scal = true ∧ Q v h) : callpP p g vs h Q := ⟨h1, e.mono k⟩
theorem WpI_nil (vars loc : List V) (h : H) (Q : List V → H → Prop) : WpI p [] vars loc h Q = Q vars h := by
  unfold WpI
  refine propext ⟨fun ⟨N, f, v, h', e, q⟩ => ?_, fun q => ⟨0, 0, vars, h, rfl, q⟩⟩
  rw [evIts_nil] at e; cases e; exact q
theorem WpI_cons (d : D) (a : Act1) (its : List It) (vars loc : List V) (h : H) (Q : List V → H → Prop) :
    WpI p (⟨d, none, a⟩ :: its) vars loc h Q = EvA p vars loc h a (itsK p d its vars loc Q) := by
  unfold itsK WpI EvA
  refine propext ⟨fun ⟨N, f, v, h', e, q⟩ => ?_, fun ⟨N, f, v, h1, e, N2, f2, vars', h', e2, q⟩ => ?_⟩
  · rw [evIts_cons] at e
    simp only [wantedV] at e
    split at e
    · rename_i v1 h1 ha
      exact ⟨N, f, v1, h1, ha, N, f, v, h', e, q⟩
    · cases e
  · refine ⟨max N N2, max f f2, vars', h', ?_, q⟩
    rw [evIts_cons]
    have b1 := big p (Nat.le_max_left N N2) (Nat.le_max_left f f2)
    have b2 := big p (Nat.le_max_right N N2) (Nat.le_max_right f f2)
    simp only [wantedV, evAct_mono b1.1 b1.2 e]
    exact evIts_mono b2.1 b2.2 _ _ _ _ _ e2
theorem WpI_guard (d : D) (x : X) (b : Bool) (a : Act1) (its : List It) (vars loc : List V) (h : H) (Q : List V → H → Prop) :
    WpI p (⟨d, some (x, b), a⟩ :: its) vars loc h Q = onSome (wantedV vars loc (some (x, b))) (caseW p d a its vars loc h Q) := by
  unfold onSome
  refine propext ⟨fun ⟨N, f, v, h', e, q⟩ => ?_, fun ⟨w, hw, k⟩ => ?_⟩
  · rw [evIts_cons] at e
    split at e
    · rename_i hw
      refine ⟨true, hw, ?_⟩
      split at e
      · rename_i v1 h1 ha
        exact ⟨N, f, v1, h1, ha, N, f, v, h', e, q⟩
      · cases e
    · rename_i hw
      exact ⟨false, hw, N, f, v, h', e, q⟩
    · cases e
  · cases w with
    | true =>
      obtain ⟨N, f, v, h1, e, N2, f2, vars', h', e2, q⟩ := k
      refine ⟨max N N2, max f f2, vars', h', ?_, q⟩
      rw [evIts_cons]
      have b1 := big p (Nat.le_max_left N N2) (Nat.le_max_left f f2)
      have b2 := big p (Nat.le_max_right N N2) (Nat.le_max_right f f2)
      simp only [hw, evAct_mono b1.1 b1.2 e]
      exact evIts_mono b2.1 b2.2 _ _ _ _ _ e2
    | false =>
      obtain ⟨N, f, v, h', e, q⟩ := k
      refine ⟨N, f, v, h', ?_, q⟩
      rw [evIts_cons]
      simp only [hw]
      exact e

/-! items of a drawn region -/
theorem WpA_nil (base : Nat) (vars : List V) (log : Log) (h : H) (Q : List V → H → Prop) : WpA p base [] vars log h Q = Q vars h := by
  unfold WpA
  refine propext ⟨fun ⟨N, f, v, h', e, q⟩ => ?_, fun q => ⟨0, 0, vars, h, rfl, q⟩⟩
  rw [evAny_nil] at e; cases e; exact q
theorem WpA_cons (base i : Nat) (d : D) (a : Act1) (cks : List Nat) (xs : List AI) (vars : List V) (log : Log) (h : H) (Q : List V → H → Prop) :
    WpA p base (⟨i, ⟨d, none, a⟩, false, cks⟩ :: xs) vars log h Q = EvA p vars [] h a (anyK p base ⟨i, ⟨d, none, a⟩, false, cks⟩ xs vars log Q) := by
  unfold anyK WpA EvA
  refine propext ⟨fun ⟨N, f, v, h', e, q⟩ => ?_, fun ⟨N, f, v, h1, e, ho, N2, f2, vars', h', e2, q⟩ => ?_⟩
  · rw [evAny_cons] at e
    simp only [wantedV, Bool.false_eq_true, if_false] at e
    split at e
    · rename_i v1 h1 ha
      split at e
      · rename_i ho
        exact ⟨N, f, v1, h1, ha, ho, N, f, v, h', e, q⟩
      · cases e
    · cases e
  · refine ⟨max N N2, max f f2, vars', h', ?_, q⟩
    rw [evAny_cons]
    have b1 := big p (Nat.le_max_left N N2) (Nat.le_max_left f f2)
    have b2 := big p (Nat.le_max_right N N2) (Nat.le_max_right f f2)
    simp only [wantedV, Bool.false_eq_true, if_false, evAct_mono b1.1 b1.2 e, ho, if_true]
    exact evAny_mono b2.1 b2.2 _ _ _ _ _ e2
theorem WpA_alloc (base i : Nat) (d : D) (a : Act1) (cks : List Nat) (xs : List AI) (vars : List V) (log : Log) (h : H) (Q : List V → H → Prop) :
    WpA p base (⟨i, ⟨d, none, a⟩, true, cks⟩ :: xs) vars log h Q = onSome (evAt vars h (base + i) a) (unc (anyK p base ⟨i, ⟨d, none, a⟩, true, cks⟩ xs vars log Q)) := by
  unfold unc anyK WpA onSome
  refine propext ⟨fun ⟨N, f, v, h', e, q⟩ => ?_, fun ⟨r, e, ho, N2, f2, vars', h', e2, q⟩ => ?_⟩
  · rw [evAny_cons] at e
    simp only [wantedV, if_true] at e
    split at e
    · rename_i v1 h1 ha
      split at e
      · rename_i ho
        exact ⟨(v1, h1), ha, ho, N, f, v, h', e, q⟩
      · cases e
    · cases e
  · refine ⟨N2, f2, vars', h', ?_, q⟩
    rw [evAny_cons]
    obtain ⟨v, h1⟩ := r
    simp only [wantedV, if_true, e, ho]
    exact e2
theorem WpA_guard (base i : Nat) (d : D) (x : X) (b : Bool) (a : Act1) (al : Bool) (cks : List Nat) (xs : List AI) (vars : List V) (log : Log) (h : H) (Q : List V → H → Prop) :
    WpA p base (⟨i, ⟨d, some (x, b), a⟩, al, cks⟩ :: xs) vars log h Q = onSome (wantedV vars [] (some (x, b))) (caseA p base i d x b a al cks xs vars log h Q) := by
  unfold onSome
  refine propext ⟨fun ⟨N, f, v, h', e, q⟩ => ?_, fun ⟨w, hw, k⟩ => ?_⟩
  · rw [evAny_cons] at e
    split at e
    · rename_i hw
      refine ⟨true, hw, ?_⟩
      cases al with
      | true =>
        simp only [if_true] at e
        split at e
        · rename_i v1 h1 ha
          split at e
          · rename_i ho
            exact ⟨(v1, h1), ha, ho, N, f, v, h', e, q⟩
          · cases e
        · cases e
      | false =>
        simp only [Bool.false_eq_true, if_false] at e
        split at e
        · rename_i v1 h1 ha
          split at e
          · rename_i ho
            exact ⟨N, f, v1, h1, ha, ho, N, f, v, h', e, q⟩
          · cases e
        · cases e
    · rename_i hw
      split at e
      · rename_i ho
        exact ⟨false, hw, ho, N, f, v, h', e, q⟩
      · cases e
    · cases e
  · cases w with
    | true =>
      cases al with
      | true =>
        obtain ⟨⟨v, h1⟩, e, ho, N2, f2, vars', h', e2, q⟩ := k
        refine ⟨N2, f2, vars', h', ?_, q⟩
        rw [evAny_cons]
        simp only [hw, if_true, e, ho]
        exact e2
      | false =>
        obtain ⟨N, f, v, h1, e, ho, N2, f2, vars', h', e2, q⟩ := k
        refine ⟨max N N2, max f f2, vars', h', ?_, q⟩
        rw [evAny_cons]
        have b1 := big p (Nat.le_max_left N N2) (Nat.le_max_left f f2)
        have b2 := big p (Nat.le_max_right N N2) (Nat.le_max_right f f2)
        simp only [hw, Bool.false_eq_true, if_false, evAct_mono b1.1 b1.2 e, ho, if_true]
        exact evAny_mono b2.1 b2.2 _ _ _ _ _ e2
    | false =>
      obtain ⟨ho, N2, f2, vars', h', e2, q⟩ := k
      refine ⟨N2, f2, vars', h', ?_, q⟩
      rw [evAny_cons]
      simp only [hw, ho, if_true]
      exact e2

/-! statements -/
variable {rd : Option Nat} {vars : List V} {h : H} {Q : E → List V → H → Prop}

theorem Wp_skip : Wp p rd .skip vars h Q = Q .norm vars h := by
  unfold Wp; simp only [run_skip]
  exact propext ⟨fun ⟨_, _, _, _, _, e, q⟩ => by cases e; exact q, fun q => ⟨0, 0, _, _, _, rfl, q⟩⟩
theorem Wp_ret : Wp p rd .ret vars h Q = Q .ret vars h := by
  unfold Wp; simp only [run_ret]
  exact propext ⟨fun ⟨_, _, _, _, _, e, q⟩ => by cases e; exact q, fun q => ⟨0, 0, _, _, _, rfl, q⟩⟩
theorem Wp_exit (n : Nat) : Wp p rd (.exit n) vars h Q = Q (.exit n) vars h := by
  unfold Wp; simp only [run_exit]
  exact propext ⟨fun ⟨_, _, _, _, _, e, q⟩ => by cases e; exact q, fun q => ⟨0, 0, _, _, _, rfl, q⟩⟩
theorem Wp_scope (a : C) : Wp p rd (.scope a) vars h Q = Wp p rd a vars h Q := by
  unfold Wp; simp only [run_scope]
theorem Wp_reg (its : List It) : Wp p rd (.reg its) vars h Q = WpI p its vars [] h (Q .norm) := by
  unfold Wp WpI; simp only [run_reg]
  refine propext ⟨fun ⟨N, f, e, v, h', he, q⟩ => ?_, fun ⟨N, f, v, h', he, q⟩ => ⟨N, f, .norm, v, h', by rw [he], q⟩⟩
  split at he
  · rename_i hr; cases he; exact ⟨N, f, _, _, hr, q⟩
  · cases he
/-- At the end of a drawn region. -/
def endA (n : Nat) (Q : E → List V → H → Prop) : List V → H → Prop := fun vs h' => Q .norm (vs.take n) h'
theorem endA_mk (n : Nat) (vs : List V) (h' : H) : endA n Q vs h' = Q .norm (vs.take n) h' := rfl
theorem Wp_any (k nl : Nat) (its : List AI) : Wp p rd (.any k nl its) vars h Q = WpA p h.next its (vars ++ List.replicate nl .unk) [] { h with next := h.next + k } (endA vars.length Q) := by
  unfold endA Wp WpA; simp only [run_any]
  refine propext ⟨fun ⟨N, f, e, v, h', he, q⟩ => ?_, fun ⟨N, f, v, h', he, q⟩ => ⟨N, f, .norm, _, h', by rw [he], q⟩⟩
  split at he
  · rename_i hr; cases he; exact ⟨N, f, _, _, hr, q⟩
  · cases he
/-- What comes behind a statement. -/
def thenP (p : Nat → Option Fn) (rd : Option Nat) (b : C) (Q : E → List V → H → Prop) : E → List V → H → Prop := fun e vars h => match e with | .norm => Wp p rd b vars h Q | e => Q e vars h
theorem thenP_norm (b : C) (vars : List V) (h : H) : thenP p rd b Q .norm vars h = Wp p rd b vars h Q := rfl
theorem thenP_ret (b : C) (vars : List V) (h : H) : thenP p rd b Q .ret vars h = Q .ret vars h := rfl
theorem thenP_exit (b : C) (n : Nat) (vars : List V) (h : H) : thenP p rd b Q (.exit n) vars h = Q (.exit n) vars h := rfl
theorem Wp_seq (a b : C) : Wp p rd (.seq a b) vars h Q = Wp p rd a vars h (thenP p rd b Q) := by
  refine propext ⟨fun ⟨N, f, e, v, h', he, q⟩ => ?_, fun ⟨N, f, e, v, h1, he, k⟩ => ?_⟩
  · rw [run_seq] at he
    cases hr : run (lev p N f).1 (lev p N f).2 N rd a vars h with
    | none => simp [hr] at he
    | some r =>
      obtain ⟨e1, v1, d1, h1⟩ := r
      simp only [hr] at he
      cases e1 with
      | norm =>
        simp only at he
        cases hr2 : run (lev p N f).1 (lev p N f).2 N rd b v1 h1 with
        | none => simp [hr2] at he
        | some r =>
          obtain ⟨e2, v2, d2, h2⟩ := r
          simp only [hr2, Option.some.injEq, Prod.mk.injEq] at he
          obtain ⟨rfl, rfl, hd, rfl⟩ := he
          simp only [List.append_eq_nil_iff] at hd
          obtain ⟨rfl, rfl⟩ := hd
          exact ⟨N, f, .norm, v1, h1, hr, N, f, _, _, _, hr2, q⟩
      | ret => simp only at he; cases he; exact ⟨N, f, _, _, _, hr, q⟩
      | exit n => simp only at he; cases he; exact ⟨N, f, _, _, _, hr, q⟩
  · cases e with
    | norm =>
      obtain ⟨N2, f2, e2, v2, h2, he2, q⟩ := k
      refine ⟨max N N2, max f f2, e2, v2, h2, ?_, q⟩
      have b1 := big p (Nat.le_max_left N N2) (Nat.le_max_left f f2)
      have b2 := big p (Nat.le_max_right N N2) (Nat.le_max_right f f2)
      rw [run_seq, run_mono b1.1 b1.2 (Nat.le_max_left N N2) _ _ _ _ he]
      simp only [run_mono b2.1 b2.2 (Nat.le_max_right N N2) _ _ _ _ he2]
      rfl
    | ret => exact ⟨N, f, _, _, _, by rw [run_seq, he], k⟩
    | exit n => exact ⟨N, f, _, _, _, by rw [run_seq, he], k⟩
theorem Wp_ite (x : X) (a b : C) : Wp p rd (.ite x a b) vars h Q = iteW p rd a b vars h Q (xv vars [] x) := by
  unfold iteW Wp
  simp only [run_ite]
  cases xv vars [] x with
  | bool t => cases t <;> rfl
  | _ => exact propext ⟨fun ⟨_, _, _, _, _, e, _⟩ => (nomatch e), fun h => h.elim⟩
/-- At the end of a block. -/
def blockP (id : Nat) (Q : E → List V → H → Prop) : E → List V → H → Prop := fun e vars h => match e with | .exit n => if n = id then Q .norm vars h else Q (.exit n) vars h | e => Q e vars h
theorem blockP_norm (id : Nat) (vars : List V) (h : H) : blockP id Q .norm vars h = Q .norm vars h := rfl
theorem blockP_ret (id : Nat) (vars : List V) (h : H) : blockP id Q .ret vars h = Q .ret vars h := rfl
theorem blockP_same (id : Nat) (vars : List V) (h : H) : blockP id Q (.exit id) vars h = Q .norm vars h := if_pos rfl
theorem blockP_ne (id n : Nat) (hn : n ≠ id) (vars : List V) (h : H) : blockP id Q (.exit n) vars h = Q (.exit n) vars h := if_neg hn
theorem Wp_block (id : Nat) (a : C) : Wp p rd (.block id a) vars h Q = Wp p rd a vars h (blockP id Q) := by
  unfold Wp
  simp only [run_block]
  refine propext ⟨fun ⟨N, f, e, v, h', he, q⟩ => ?_, fun ⟨N, f, e, v, h1, he, k⟩ => ?_⟩
  · cases hr : run (lev p N f).1 (lev p N f).2 N rd a vars h with
    | none => simp [hr] at he
    | some r =>
      obtain ⟨e1, v1, d1, h1⟩ := r
      simp only [hr] at he
      cases e1 with
      | exit n =>
        simp only at he
        split at he
        · rename_i hn; cases he; exact ⟨N, f, _, _, _, hr, by simp only [blockP]; rw [if_pos hn]; exact q⟩
        · rename_i hn; cases he; exact ⟨N, f, _, _, _, hr, by simp only [blockP]; rw [if_neg hn]; exact q⟩
      | norm => simp only at he; cases he; exact ⟨N, f, _, _, _, hr, q⟩
      | ret => simp only at he; cases he; exact ⟨N, f, _, _, _, hr, q⟩
  · cases e with
    | exit n =>
      simp only [blockP] at k
      split at k
      · rename_i hn; exact ⟨N, f, _, _, _, by rw [he]; simp only; rw [if_pos hn], k⟩
      · rename_i hn; exact ⟨N, f, _, _, _, by rw [he]; simp only; rw [if_neg hn], k⟩
    | norm => exact ⟨N, f, _, _, _, by rw [he], k⟩
    | ret => exact ⟨N, f, _, _, _, by rw [he], k⟩

/-- At a round's end. -/
def roundP (J : List V → H → Prop) (Q : E → List V → H → Prop) : E → List V → H → Prop := fun e vars h => match e with | .norm => J vars h | e => Q e vars h
theorem roundP_norm (J : List V → H → Prop) (vars : List V) (h : H) : roundP J Q .norm vars h = J vars h := rfl
theorem roundP_ret (J : List V → H → Prop) (vars : List V) (h : H) : roundP J Q .ret vars h = Q .ret vars h := rfl
theorem roundP_exit (J : List V → H → Prop) (n : Nat) (vars : List V) (h : H) : roundP J Q (.exit n) vars h = Q (.exit n) vars h := rfl

/-- Behind a range over a function. -/
def rangeK (id : Nat) (vars : List V) (Q : E → List V → H → Prop) : V → H → Prop := fun _ h' => ∃ r, h'.get id = some (.loop r) ∧ r.st ≠ .busy ∧ Q (r.pend.getD .norm) vars (h'.set id (some (.loop { r with st := .out })))
/-- A range over a function. -/
def rangeP (p : Nat → Option Fn) (rd : Option Nat) (x : V) (pars : List Nat) (assign body : C) (vars : List V) (h : H) (Q : E → List V → H → Prop) : Prop :=
  match x with
  | .fn g fs cs => rdOk rd h = true ∧ Ev p g (fs ++ .yl h.next :: cs) (h.new (.loop { vars, pars, assign, body, st := .ready, pend := none })) (rangeK h.next vars Q)
  | _ => False
theorem rangeP_congr {x x' : V} {pars : List Nat} {a b : C} {v v' : List V} {h h' : H} (e0 : x = x') (e1 : v = v') (e2 : h = h') : rangeP p rd x pars a b v h Q = rangeP p rd x' pars a b v' h' Q := by rw [e0, e1, e2]
theorem rangeP_fn (g : Nat) (fs cs : List V) (pars : List Nat) (assign body : C) : rangeP p rd (.fn g fs cs) pars assign body vars h Q = (rdOk rd h = true ∧ Ev p g (fs ++ .yl h.next :: cs) (h.new (.loop { vars, pars, assign, body, st := .ready, pend := none })) (rangeK h.next vars Q)) := rfl
theorem Wp_range (x : X) (pars : List Nat) (a b : C) : Wp p rd (.range x pars a b) vars h Q = rangeP p rd (xv vars [] x) pars a b vars h Q := by
  unfold Wp rangeP
  simp only [run_range, runRange]
  cases xv vars [] x with
  | fn g fs cs =>
    simp only
    refine propext ⟨fun ⟨N, f, e, v, h', he, q⟩ => ?_, fun ⟨ho, N, f, v, h', he, r, hg, hb, q⟩ => ?_⟩
    · split at he
      · rename_i ho
        refine ⟨ho, ?_⟩
        split at he
        · rename_i v1 h1 hc
          split at he
          · rename_i r hg
            split at he
            · cases he
            · rename_i hb
              cases he
              exact ⟨N, f, v1, h1, hc, r, hg, hb, q⟩
          · cases he
        · cases he
      · cases he
    · refine ⟨N, f, _, _, _, ?_, q⟩
      rw [if_pos ho]
      simp only [he, hg]
      rw [if_neg hb]
  | _ => exact propext ⟨fun ⟨_, _, _, _, _, e, _⟩ => (nomatch e), fun h => h.elim⟩

/-! functions -/
def retK (Q : V → H → Prop) (h : H) : List V → Prop := fun vs => Q (tupV vs) h
theorem retK_mk (Q : V → H → Prop) (h : H) (vs : List V) : retK Q h vs = Q (tupV vs) h := rfl
def retP (results : List Rv) (Q : V → H → Prop) : E → List V → H → Prop := fun e vars h => match e with
  | .exit _ => False
  | _ => onSome (allSome (results.map (resV vars h))) (retK Q h)
theorem retP_norm (results : List Rv) (Q : V → H → Prop) (vars : List V) (h : H) : retP results Q .norm vars h = onSome (allSome (results.map (resV vars h))) (retK Q h) := rfl
theorem retP_ret (results : List Rv) (Q : V → H → Prop) (vars : List V) (h : H) : retP results Q .ret vars h = onSome (allSome (results.map (resV vars h))) (retK Q h) := rfl

theorem Ev_of {g : Nat} {fn : Fn} {args : List V} {h : H} {Q : V → H → Prop} (hg : p g = some fn) (hl : args.length = fn.nargs) (hw : Wp p none fn.body (initV fn args) h (retP fn.results Q)) : Ev p g args h Q := by
  obtain ⟨N, f, e, v, h', he, q⟩ := hw
  cases e with
  | exit n => exact q.elim
  | norm =>
    obtain ⟨vs, hv, q⟩ := q
    refine ⟨N, f + 1, tupV vs, h', ?_, q⟩
    rw [lev_succ]
    simp only [callF, hg, hl, if_true, he, evDfs_nil, hv, Option.map_some]
  | ret =>
    obtain ⟨vs, hv, q⟩ := q
    refine ⟨N, f + 1, tupV vs, h', ?_, q⟩
    rw [lev_succ]
    simp only [callF, hg, hl, if_true, he, evDfs_nil, hv, Option.map_some]

end
end Go.Ay

