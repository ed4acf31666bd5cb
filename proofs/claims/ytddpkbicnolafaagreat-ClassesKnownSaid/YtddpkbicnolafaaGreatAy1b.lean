/- The evaluator: calls by levels, loops by fuel, all else by recursion on the code. -/
import Derived.Test.YtddpkbicnolafaaGreatAy1
namespace Go.Ay
noncomputable section

def fMov (ρ : X → V) (h : H) (x : X) : Option (V × H) := some (ρ x, h)
def fPick (ρ : X → V) (h : H) (c a b : X) : Option (V × H) := match ρ c with | .bool t => some (cond t (ρ a) (ρ b), h) | _ => none
def addH (h : H) (o : Option V) : Option (V × H) := Option.rec none (fun v => some (v, h)) o
def fBin (ρ : X → V) (h : H) (op : BinOp) (k : IntKind) (x y : X) : Option (V × H) := match ρ x, ρ y with
  | .int j a, .int j' b => if j = k ∧ j' = k then addH h (arithX op k a b) else none
  | _, _ => none
def fSnil (ρ : X → V) (h : H) (neg : Bool) (x : X) : Option (V × H) := match ρ x with
  | .nils => some (.bool (!neg), h)
  | .sl .. | .emp _ => some (.bool neg, h)
  | _ => none
def fNot (ρ : X → V) (h : H) (x : X) : Option (V × H) := match ρ x with | .bool a => some (.bool (!a), h) | _ => none
def fExt (ρ : X → V) (h : H) (x : X) (i : Nat) : Option (V × H) := match ρ x with | .tup vs => addH h (vs[i]?) | _ => none
def fLens (ρ : X → V) (h : H) (x : X) : Option (V × H) := match ρ x with
  | .nils => some (.int .i64 0, h)
  | .emp _ => some (.int .i64 0, h)
  | .sl _ _ len _ => some (.int .i64 (len : Int), h)
  | _ => none
def ldX (h : H) (agg : Bool) (n : Nat) (v : V) : Option V := match v with
  | .ptr id off => match h.getX id with
    | some (.cells _ vs) => match subX vs off n with
      | some ws => cond agg (some (.agg ws)) (match ws with | [v] => some v | _ => none)
      | none => none
    | _ => none
  | _ => none
def fLd (ρ : X → V) (h : H) (agg : Bool) (n : Nat) (x : X) : Option (V × H) := addH h (ldX h agg n (ρ x))
def hputX (h : H) (id off : Nat) (ws : List V) : Option H := match h.getX id with
  | some (.cells false vs) => match putX off ws vs with
    | some vs' => some (h.setX id (some (.cells false vs')))
    | none => none
  | _ => none
def fSt (ρ : X → V) (h : H) (n : Nat) (x y : X) : Option (V × H) := match ρ x with
  | .ptr id off => if (ρ y).cells.length = n ∧ (ρ y).cells.all V.one then (match hputX h id off (ρ y).cells with | some h' => some (V.undef, h') | none => none) else none
  | _ => none
def natOf (n : Int) : Option Nat := Int.rec (fun a => some a) (fun _ => none) n
def fIxa (ρ : X → V) (h : H) (sz : Nat) (x i : X) : Option (V × H) := match ρ x, ρ i with
  | .sl id off len _, .int _ n => (match natOf n with | some k => cond (Nat.blt k len) (some (.ptr id (off + k * sz), h)) none | none => none)
  | _, _ => none
def fIxd (ρ : X → V) (h : H) (n sz : Nat) (x i : X) : Option (V × H) := match ρ x, ρ i with
  | .ptr id off, .int _ z => (match natOf z with | some k => cond (Nat.blt k n) (some (.ptr id (off + k * sz), h)) none | none => none)
  | _, _ => none
def fFla (ρ : X → V) (h : H) (off : Nat) (x : X) : Option (V × H) := match ρ x with | .ptr id o => some (.ptr id (o + off), h) | _ => none
def fPart (ρ : X → V) (h : H) (agg : Bool) (off n : Nat) (x : X) : Option (V × H) := match ρ x with
  | .agg vs => cond agg (match subX vs off n with | some ws => some (.agg ws, h) | none => none) (addH h (vs[off]?))
  | _ => none
def fMkf (ρ : X → V) (h : H) (f : Nat) (fs cs : List X) : Option (V × H) := some (.fn f (fs.map ρ) (cs.map ρ), h)
def newX (h : H) (o : Ob) : H := H.rec (fun t n => ⟨Tr.setX (n + 1) t n (some o), n + 1⟩) h
theorem newX_eq (h : H) (o : Ob) : newX h o = h.new o := by
  cases h; show H.mk _ _ = _; rw [← Tr.setX_eq]; rfl
def fAlc (h : H) (zero : List V) : Option (V × H) := some (.ptr h.next 0, newX h (.cells false zero))
def fNck (ρ : X → V) (h : H) (x : X) : Option (V × H) := match ρ x with | .ptr id off => some (.ptr id off, h) | _ => none
def rowX (h : H) (id off n : Nat) : Option (List V) := match h.getX id with
  | some (.cells _ vs) => subX vs off n
  | _ => none
theorem rowX_eq (h : H) (id off n : Nat) : rowX h id off n = h.row id off n := by
  unfold rowX H.row; rw [H.getX_eq]
  cases h.get id with
  | none => rfl
  | some o => cases o <;> simp only [subX_eq]
def sliceX (h : H) (sz : Nat) : V → Option (List V)
  | .nils => some []
  | .emp _ => some []
  | .sl id off len _ => rowX h id off (len * sz)
  | _ => none
theorem sliceX_eq (h : H) (sz : Nat) (v : V) : sliceX h sz v = h.slice sz v := by
  cases v <;> simp only [sliceX, H.slice, rowX_eq]
def appX (l m : List V) : List V := List.rec m (fun v _ ih => v :: ih) l
theorem appX_eq : ∀ (l m : List V), appX l m = l ++ m
  | [], _ => rfl
  | v :: l, m => by show v :: appX l m = _; rw [appX_eq l m]; rfl
def appVX (h : H) (sz bytes : Nat) (x : V) (m : Nat) (ys : List V) : Option (V × H) :=
  match lenV x with
  | some n =>
    match sliceX h sz x with
    | some xs =>
    if m = 0 then some (x, h) else
    cond (Nat.ble ((2 * (n + m) + 1000) * bytes) 281474976710656 && Nat.blt (n + m) 4611686018427387904) (
      match x with
      | .sl id off len (.kn c) =>
        cond (Nat.ble (len + m) c) (match hputX h id (off + len * sz) ys with
          | some h' => some (.sl id off (len + m) (.kn c), h')
          | none => none)
        (some (.sl h.next 0 (n + m) (.un sz), newX h (.cells false (appX xs ys))))
      | .sl id _ _ (.un e) =>
        match h.getX id with
        | some (.cells false _) => cond (Nat.beq e sz) (some (.sl h.next 0 (n + m) (.un sz), newX (h.setX id none) (.cells false (appX xs ys)))) none
        | _ => none
      | .emp _ => none
      | _ => some (.sl h.next 0 (n + m) (.un sz), newX h (.cells false (appX xs ys)))) none
    | none => none
  | none => none
theorem hputX_eq' (h : H) (id off : Nat) (ws : List V) : hputX h id off ws = h.put id off ws := by
  unfold hputX H.put
  simp only [H.getX_eq, putX_eq, H.setX_eq]
  cases h.get id with
  | none => rfl
  | some o => cases o with
    | cells ro vs => cases ro <;> simp only <;> cases putAt vs off ws <;> rfl
    | _ => rfl
theorem appVX_eq (h : H) (sz bytes : Nat) (x : V) (m : Nat) (ys : List V) : appVX h sz bytes x m ys = appV h sz bytes x m ys := by
  unfold appVX appV
  rw [sliceX_eq]
  cases hn : lenV x with
  | none => rfl
  | some n =>
    cases hs : h.slice sz x with
    | none => rfl
    | some xs =>
      simp only
      by_cases hm : m = 0
      · simp [hm]
      · simp only [hm, if_false]
        have hb : (Nat.ble ((2 * (n + m) + 1000) * bytes) 281474976710656 && Nat.blt (n + m) 4611686018427387904) = decide ((2 * (n + m) + 1000) * bytes ≤ 2 ^ 48 ∧ n + m < 2 ^ 62) := by
          rw [Bool.eq_iff_iff]
          simp only [Bool.and_eq_true, Nat.ble_eq, Nat.blt_eq, decide_eq_true_eq]
        rw [hb]
        by_cases hc : (2 * (n + m) + 1000) * bytes ≤ 2 ^ 48 ∧ n + m < 2 ^ 62
        · rw [if_pos hc, decide_eq_true hc]
          simp only [cond_true, newX_eq, H.setX_eq, H.getX_eq, appX_eq, hputX_eq']
          cases x with
          | sl id off len cap =>
            cases cap with
            | kn c =>
              simp only
              by_cases hle : len + m ≤ c
              · rw [if_pos hle, (Nat.ble_eq).mpr hle]; rfl
              · rw [if_neg hle, show Nat.ble (len + m) c = false from by
                  cases h9 : Nat.ble (len + m) c with
                  | false => rfl
                  | true => exact absurd ((Nat.ble_eq).mp h9) hle]; rfl
            | un e =>
              simp only
              cases h.get id with
              | none => rfl
              | some o => cases o with
                | cells ro vs => cases ro with
                  | true => rfl
                  | false =>
                    simp only
                    by_cases he : e = sz
                    · rw [if_pos he, (Nat.beq_eq).mpr he]; rfl
                    · rw [if_neg he, show Nat.beq e sz = false from by
                        cases h9 : Nat.beq e sz with
                        | false => rfl
                        | true => exact absurd ((Nat.beq_eq).mp h9) he]; rfl
                | _ => rfl
          | _ => rfl
        · rw [if_neg hc, decide_eq_false hc]; rfl
def fApp (ρ : X → V) (h : H) (sz bytes : Nat) (x y : X) : Option (V × H) := match lenV (ρ y) with
  | some m => match sliceX h sz (ρ y) with
    | some ys => appVX h sz bytes (ρ x) m ys
    | none => none
  | none => none

/-- One operation, for the kernel. -/
def evX (ρ : X → V) (h : H) (i : I) : Option (V × H) :=
  I.rec (motive := fun _ => Option (V × H))
    (fMov ρ h) (fPick ρ h) (fBin ρ h) (fun a b c d => evI ρ h (.shf a b c d)) (fun a b c => evI ρ h (.beq a b c)) (fSnil ρ h) (fNot ρ h) (fun k x => evI ρ h (.neg k x)) (fun k x => evI ρ h (.conv k x))
    (fPart ρ h) (fExt ρ h) (fLens ρ h) (fun x => evI ρ h (.lenm x)) (fun x => evI ρ h (.caps x)) (fun m xs => evI ρ h (.mm m xs)) (fLd ρ h) (fSt ρ h) (fIxa ρ h) (fFla ρ h)
    (fun a b c d e => evI ρ h (.slc a b c d e)) (fun a b c d e => evI ρ h (.mks a b c d e)) (fAlc h) (fun x => evI ρ h (.box x)) (fun z ps => evI ρ h (.bld z ps)) (fun a b c d => evI ρ h (.bls a b c d))
    (fApp ρ h) (fun a b c d e => evI ρ h (.apz a b c d e)) (fun a b c => evI ρ h (.cpy a b c)) (fMkf ρ h) (evI ρ h .mkm) (fun a b c d => evI ρ h (.lkp a b c d)) (fun a b c => evI ρ h (.mset a b c)) (fNck ρ h)
    (fIxd ρ h) (fun x => evI ρ h (.cvs x)) (fun t x => evI ρ h (.mif t x)) (fun a b => evI ρ h (.mkw a b)) (fun s a b c d => evI ρ h (.lkw s a b c d)) (fun s a b c => evI ρ h (.msw s a b c)) (fun s a b c => evI ρ h (.ent s a b c)) (fun a b c => evI ρ h (.ens a b c)) (fun a b => evI ρ h (.six a b)) none i

theorem addH_map (h : H) (o : Option V) : addH h o = o.map (·, h) := by cases o <;> rfl

theorem ldX_eq (h : H) (agg : Bool) (n : Nat) (v : V) : ldX h agg n v = ldV h agg n v := by
  unfold ldX ldV H.row
  cases v with
  | ptr id off =>
    simp only [H.getX_eq, subX_eq]
    cases h.get id with
    | none => rfl
    | some o => cases o with
      | cells ro vs => simp only; cases sub vs off n with
        | none => rfl
        | some ws => cases agg <;> rfl
      | _ => rfl
  | _ => rfl

theorem hputX_eq (h : H) (id off : Nat) (ws : List V) : hputX h id off ws = h.put id off ws := by
  unfold hputX H.put
  simp only [H.getX_eq, putX_eq, H.setX_eq]
  cases h.get id with
  | none => rfl
  | some o => cases o with
    | cells ro vs => cases ro <;> simp only <;> cases putAt vs off ws <;> rfl
    | _ => rfl

theorem evX_eq (ρ : X → V) (h : H) (i : I) : evX ρ h i = evI ρ h i := by
  cases i with
  | pick c a b => show fPick ρ h c a b = _; simp only [fPick, evI]; cases ρ c <;> try rfl
                  rename_i t; cases t <;> rfl
  | bin op k x y => show fBin ρ h op k x y = _; simp only [fBin, evI, addH_map, arithX_eq]; rfl
  | ext x i => show fExt ρ h x i = _; simp only [fExt, evI, addH_map]; rfl
  | lens x => show fLens ρ h x = _; simp only [fLens, evI]; cases ρ x <;> rfl
  | ld agg n x => show fLd ρ h agg n x = _; simp only [fLd, evI, addH_map, ldX_eq]
  | st n x y =>
    show fSt ρ h n x y = _
    simp only [fSt, evI, hputX_eq]
    cases ρ x <;> try rfl
    simp only
    split <;> try rfl
    cases h.put _ _ _ <;> rfl
  | ixa sz x i =>
    show fIxa ρ h sz x i = _
    simp only [fIxa, evI, ixaV]
    cases ρ x <;> try rfl
    cases ρ i <;> try rfl
    rename_i id off len cap k n
    simp only
    cases n with
    | ofNat a =>
      simp only [natOf]
      by_cases h1 : a < len
      · rw [(Nat.blt_eq).mpr h1]
        have h2 : (0 : Int) ≤ Int.ofNat a ∧ Int.ofNat a < (len : Int) := ⟨Int.natCast_nonneg a, by simpa using h1⟩
        rw [if_pos h2]; rfl
      · have h3 : Nat.blt a len = false := by
          cases h4 : Nat.blt a len with
          | false => rfl
          | true => exact absurd ((Nat.blt_eq).mp h4) h1
        rw [h3]
        have h2 : ¬ ((0 : Int) ≤ Int.ofNat a ∧ Int.ofNat a < (len : Int)) := fun h => h1 (by simpa using h.2)
        rw [if_neg h2]; rfl
    | negSucc a =>
      have h2 : ¬ ((0 : Int) ≤ Int.negSucc a ∧ Int.negSucc a < (len : Int)) := fun h => by have := h.1; omega
      rw [if_neg h2]; rfl
  | ixd len sz x i =>
    show fIxd ρ h len sz x i = _
    simp only [fIxd, evI, ixdV]
    cases ρ x <;> try rfl
    cases ρ i <;> try rfl
    rename_i id off k n
    simp only
    cases n with
    | ofNat a =>
      simp only [natOf]
      by_cases h1 : a < len
      · rw [(Nat.blt_eq).mpr h1]
        have h2 : (0 : Int) ≤ Int.ofNat a ∧ Int.ofNat a < (len : Int) := ⟨Int.natCast_nonneg a, by simpa using h1⟩
        rw [if_pos h2]; rfl
      · have h3 : Nat.blt a len = false := by
          cases h4 : Nat.blt a len with
          | false => rfl
          | true => exact absurd ((Nat.blt_eq).mp h4) h1
        rw [h3]
        have h2 : ¬ ((0 : Int) ≤ Int.ofNat a ∧ Int.ofNat a < (len : Int)) := fun h => h1 (by simpa using h.2)
        rw [if_neg h2]; rfl
    | negSucc a =>
      have h2 : ¬ ((0 : Int) ≤ Int.negSucc a ∧ Int.negSucc a < (len : Int)) := fun h => by have := h.1; omega
      rw [if_neg h2]; rfl
  | alc z => show fAlc h z = _; simp only [fAlc, evI, newX_eq]
  | app sz b x y =>
    show fApp ρ h sz b x y = _
    simp only [fApp, evI, sliceX_eq, appVX_eq]
    cases lenV (ρ y) <;> cases h.slice sz (ρ y) <;> rfl
  | part agg off n x =>
    show fPart ρ h agg off n x = _
    simp only [fPart, evI, subX_eq, addH_map]
    cases ρ x <;> try rfl
    cases agg
    · rfl
    · simp only [cond_true, if_true]
      cases sub _ _ _ <;> rfl
  | _ => rfl

/-! ### The evaluator -/

abbrev CallF := Nat → List V → H → Option (V × H)

/-- A call of numbers that gives a number: nothing else comes of it. -/
def pureC (cl : CallF) (g : Nat) (vs : List V) (h : H) : Option (V × H) :=
  cond (vs.all V.scal) (match cl g vs ⟨.lf, 0⟩ with | some (v, _) => cond v.scal (some (v, h)) none | none => none) none

def evAct (cl yl : CallF) (vars loc : List V) (h : H) (a : Act1) : Option (V × H) :=
  Act1.rec (motive := fun _ => Option (V × H)) (evX (xvX vars loc) h) (fun g args => cl g (args.map (xvX vars loc)) h)
    (fun x args => match xvX vars loc x with
      | .fn g fs cs => cl g (fs ++ args.map (xvX vars loc) ++ cs) h
      | .yl id => yl id (args.map (xvX vars loc)) h
      | _ => none)
    (fun g args => pureC cl g (args.map (xvX vars loc)) h)
    (fun g t x args => match xvX vars loc x with
      | .ifc u v => cond (Nat.beq u t) (cl g (v :: args.map (xvX vars loc)) h) none
      | _ => none) a

theorem evAct_op (cl yl : CallF) (vars loc : List V) (h : H) (i : I) : evAct cl yl vars loc h (.op i) = evI (xv vars loc) h i := by
  show evX (xvX vars loc) h i = _; rw [evX_eq, xvX_eq]
theorem evAct_call (cl yl : CallF) (vars loc : List V) (h : H) (g : Nat) (args : List X) : evAct cl yl vars loc h (.call g args) = cl g (args.map (xv vars loc)) h := by
  show cl g (args.map (xvX vars loc)) h = _; rw [xvX_eq]
theorem evAct_callv (cl yl : CallF) (vars loc : List V) (h : H) (x : X) (args : List X) : evAct cl yl vars loc h (.callv x args) = match xv vars loc x with
      | .fn g fs cs => cl g (fs ++ args.map (xv vars loc) ++ cs) h
      | .yl id => yl id (args.map (xv vars loc)) h
      | _ => none := by
  rw [← xvX_eq]; rfl
theorem evAct_calli (cl yl : CallF) (vars loc : List V) (h : H) (g t : Nat) (x : X) (args : List X) : evAct cl yl vars loc h (.calli g t x args) = match xv vars loc x with
      | .ifc u v => cond (Nat.beq u t) (cl g (v :: args.map (xv vars loc)) h) none
      | _ => none := by
  rw [← xvX_eq]; rfl
theorem evAct_callp (cl yl : CallF) (vars loc : List V) (h : H) (g : Nat) (args : List X) : evAct cl yl vars loc h (.callp g args) = pureC cl g (args.map (xv vars loc)) h := by
  show pureC cl g (args.map (xvX vars loc)) h = _; rw [xvX_eq]
theorem pureC_some {cl : CallF} {g : Nat} {vs : List V} {h h' : H} {v : V} (he : pureC cl g vs h = some (v, h')) : h' = h ∧ vs.all V.scal = true ∧ v.scal = true ∧ ∃ h2, cl g vs ⟨.lf, 0⟩ = some (v, h2) := by
  unfold pureC at he
  cases h1 : vs.all V.scal with
  | false => rw [h1] at he; cases he
  | true =>
    rw [h1] at he
    simp only [cond_true] at he
    split at he
    · rename_i w h2 hc
      cases h3 : w.scal with
      | false => rw [h3] at he; cases he
      | true => rw [h3] at he; cases he; exact ⟨rfl, rfl, h3, h2, hc⟩
    · cases he
theorem pureC_any {cl : CallF} {g : Nat} {vs : List V} {h h' : H} {v : V} (he : pureC cl g vs h = some (v, h')) (h2 : H) : pureC cl g vs h2 = some (v, h2) := by
  obtain ⟨_, h1, h3, _, hc⟩ := pureC_some he
  unfold pureC
  simp only [h1, hc, h3, cond_true]

def wantedX (vars loc : List V) (g : Option (X × Bool)) : Option Bool :=
  match g with
  | none => some true
  | some (x, b) => match xvX vars loc x with | .bool a => some (a == b) | .tup [] => some false | _ => none
theorem wantedX_eq (vars loc : List V) (g : Option (X × Bool)) : wantedX vars loc g = wantedV vars loc g := by
  unfold wantedX wantedV; rw [xvX_eq]; rfl

def putVX {α : Type} (d : D) (vars loc : List V) (v : V) (k : List V → List V → α) : α :=
  D.rec (fun i => k (setL vars i v) loc) (k vars (v :: loc)) (k vars loc) d
theorem putVX_eq {α : Type} (d : D) (vars loc : List V) (v : V) (k : List V → List V → α) : putVX d vars loc v k = k (putV d vars loc v).1 (putV d vars loc v).2 := by
  cases d with
  | v i => show k (setL vars i v) loc = _; rw [setL_eq]; rfl
  | l => rfl
  | n => rfl

/-- The items of a region. -/
def evIts (cl yl : CallF) (its : List It) : List V → List V → H → Option (List V × H) :=
  List.rec (fun vars _ h => some (vars, h)) (fun it _ ih vars loc h =>
    match wantedX vars loc it.g with
    | some true => match evAct cl yl vars loc h it.a with
      | some (v, h) => putVX it.d vars loc v fun vars loc => ih vars loc h
      | none => none
    | some false => putVX it.d vars loc .undef fun vars loc => ih vars loc h
    | none => none) its

theorem evIts_nil (cl yl : CallF) (vars loc : List V) (h : H) : evIts cl yl [] vars loc h = some (vars, h) := rfl
theorem evIts_cons (cl yl : CallF) (it : It) (its : List It) (vars loc : List V) (h : H) : evIts cl yl (it :: its) vars loc h =
    match wantedV vars loc it.g with
    | some true => match evAct cl yl vars loc h it.a with
      | some (v, h) => evIts cl yl its (putV it.d vars loc v).1 (putV it.d vars loc v).2 h
      | none => none
    | some false => evIts cl yl its (putV it.d vars loc .undef).1 (putV it.d vars loc .undef).2 h
    | none => none := by
  rw [← wantedX_eq]
  show (match wantedX vars loc it.g with
    | some true => match evAct cl yl vars loc h it.a with
      | some (v, h) => putVX it.d vars loc v fun vars loc => evIts cl yl its vars loc h
      | none => none
    | some false => putVX it.d vars loc .undef fun vars loc => evIts cl yl its vars loc h
    | none => none) = _
  simp only [putVX_eq]

/-- The items of a region whose order is drawn. -/
def evAny (cl yl : CallF) (base : Nat) (xs : List AI) : List V → Log → H → Option (List V × H) :=
  List.rec (fun vars _ h => some (vars, h)) (fun x _ ih vars log h =>
    match wantedX vars [] x.it.g with
    | some true =>
      match cond x.al (evAt vars h (base + x.i) x.it.a) (evAct cl yl vars [] h x.it.a) with
      | some (v, h) => if okLog x.cks log h then putVX x.it.d vars [] v fun vars' _ => ih vars' (logV x vars v log) h else none
      | none => none
    | some false => if okLog x.cks log h then putVX x.it.d vars [] .undef fun vars' _ => ih vars' log h else none
    | none => none) xs

theorem evAny_nil (cl yl : CallF) (base : Nat) (vars : List V) (log : Log) (h : H) : evAny cl yl base [] vars log h = some (vars, h) := rfl
theorem evAny_cons (cl yl : CallF) (base : Nat) (x : AI) (xs : List AI) (vars : List V) (log : Log) (h : H) : evAny cl yl base (x :: xs) vars log h =
    match wantedV vars [] x.it.g with
    | some true =>
      match (if x.al then evAt vars h (base + x.i) x.it.a else evAct cl yl vars [] h x.it.a) with
      | some (v, h) => if okLog x.cks log h then evAny cl yl base xs (putV x.it.d vars [] v).1 (logV x vars v log) h else none
      | none => none
    | some false => if okLog x.cks log h then evAny cl yl base xs (putV x.it.d vars [] .undef).1 log h else none
    | none => none := by
  rw [← wantedX_eq]
  show (match wantedX vars [] x.it.g with
    | some true =>
      match cond x.al (evAt vars h (base + x.i) x.it.a) (evAct cl yl vars [] h x.it.a) with
      | some (v, h) => if okLog x.cks log h then putVX x.it.d vars [] v fun vars' _ => evAny cl yl base xs vars' (logV x vars v log) h else none
      | none => none
    | some false => if okLog x.cks log h then putVX x.it.d vars [] .undef fun vars' _ => evAny cl yl base xs vars' log h else none
    | none => none) = _
  simp only [putVX_eq, Bool.cond_eq_ite]

abbrev Res := Option (E × List V × Dfs × H)

/-- A loop, at most 'n' rounds. -/
def loopF (step : List V → H → Res) (n : Nat) : List V → H → Res :=
  Nat.rec (fun _ _ => none) (fun _ ih vars h => match step vars h with
    | some (.norm, vars, dfs, h) => match ih vars h with
      | some (e, vars, dfs2, h) => some (e, vars, dfs2 ++ dfs, h)
      | none => none
    | r => r) n
theorem loopF_zero (step : List V → H → Res) (vars : List V) (h : H) : loopF step 0 vars h = none := rfl
theorem loopF_succ (step : List V → H → Res) (n : Nat) (vars : List V) (h : H) : loopF step (n + 1) vars h = match step vars h with
    | some (.norm, vars, dfs, h) => match loopF step n vars h with
      | some (e, vars, dfs2, h) => some (e, vars, dfs2 ++ dfs, h)
      | none => none
    | r => r := rfl

def runSeq (a b : List V → H → Res) (vars : List V) (h : H) : Res := match a vars h with
  | some (.norm, vars, dfs, h) => match b vars h with
    | some (e, vars, dfs2, h) => some (e, vars, dfs2 ++ dfs, h)
    | none => none
  | r => r
def runIte (x : X) (a b : List V → H → Res) (vars : List V) (h : H) : Res := match xvX vars [] x with
  | .bool true => a vars h
  | .bool false => b vars h
  | _ => none
def runBlock (id : Nat) (a : List V → H → Res) (vars : List V) (h : H) : Res := match a vars h with
  | some (.exit n, vars, dfs, h) => if n = id then some (.norm, vars, dfs, h) else some (.exit n, vars, dfs, h)
  | r => r
def runReg (cl yl : CallF) (its : List It) (vars : List V) (h : H) : Res := match evIts cl yl its vars [] h with
  | some (vars, h) => some (.norm, vars, [], h)
  | none => none
def runAny (cl yl : CallF) (k nl : Nat) (its : List AI) (vars : List V) (h : H) : Res :=
  match evAny cl yl h.next its (vars ++ List.replicate nl .unk) [] { h with next := h.next + k } with
  | some (vs, h) => some (.norm, vs.take vars.length, [], h)
  | none => none
def runRegd (cl yl : CallF) (rd : Option Nat) (its : List It) (x : X) (args : List X) (vars : List V) (h : H) : Res :=
  if rd.isSome then none else match evIts cl yl its vars [] h with
    | some (vars, h) => match xv vars [] x with
      | .fn g fs cs => some (.norm, vars, [(g, fs ++ args.map (xv vars []) ++ cs)], h)
      | _ => none
    | none => none
def runRange (cl : CallF) (rd : Option Nat) (x : X) (pars : List Nat) (assign body : C) (vars : List V) (h : H) : Res :=
  match xv vars [] x with
  | .fn g fs cs =>
    if rdOk rd h then
    match cl g (fs ++ .yl h.next :: cs) (h.new (.loop { vars, pars, assign, body, st := .ready, pend := none })) with
    | some (_, h') =>
      match h'.get h.next with
      | some (.loop r) =>
        if r.st = .busy then none else
        some (r.pend.getD .norm, vars, [], h'.set h.next (some (.loop { r with st := .out })))
      | _ => none
    | none => none
    else none
  | _ => none

/-- The statements ('rd': the loop's record, in a round; 'N': how many rounds a loop may have). -/
def run (cl yl : CallF) (N : Nat) (rd : Option Nat) (c : C) : List V → H → Res :=
  C.rec (motive := fun _ => List V → H → Res) (fun vars h => some (.norm, vars, [], h)) (runReg cl yl) (runAny cl yl) (runRegd cl yl rd) (fun _ _ a b => runSeq a b) (fun x _ _ a b => runIte x a b) (fun id _ a => runBlock id a)
    (fun _ a => loopF a N) (fun n vars h => some (.exit n, vars, [], h)) (fun vars h => some (.ret, vars, [], h)) (fun _ a => a) (fun x pars as bd _ _ => runRange cl rd x pars as bd) (fun _ _ => none) c

section
variable (cl yl : CallF) (N : Nat) (rd : Option Nat) (vars : List V) (h : H)
theorem run_skip : run cl yl N rd .skip vars h = some (.norm, vars, [], h) := rfl
theorem run_reg (its : List It) : run cl yl N rd (.reg its) vars h = match evIts cl yl its vars [] h with
  | some (vars, h) => some (.norm, vars, [], h)
  | none => none := rfl
theorem run_any (k nl : Nat) (its : List AI) : run cl yl N rd (.any k nl its) vars h = match evAny cl yl h.next its (vars ++ List.replicate nl .unk) [] { h with next := h.next + k } with
  | some (vs, h) => some (.norm, vs.take vars.length, [], h)
  | none => none := rfl
theorem run_regd (its : List It) (x : X) (args : List X) : run cl yl N rd (.regd its x args) vars h = runRegd cl yl rd its x args vars h := rfl
theorem run_seq (a b : C) : run cl yl N rd (.seq a b) vars h = match run cl yl N rd a vars h with
  | some (.norm, vars, dfs, h) => match run cl yl N rd b vars h with
    | some (e, vars, dfs2, h) => some (e, vars, dfs2 ++ dfs, h)
    | none => none
  | r => r := rfl
theorem run_ite (x : X) (a b : C) : run cl yl N rd (.ite x a b) vars h = match xv vars [] x with
  | .bool true => run cl yl N rd a vars h
  | .bool false => run cl yl N rd b vars h
  | _ => none := by rw [← xvX_eq]; rfl
theorem run_block (id : Nat) (a : C) : run cl yl N rd (.block id a) vars h = match run cl yl N rd a vars h with
  | some (.exit n, vars, dfs, h) => if n = id then some (.norm, vars, dfs, h) else some (.exit n, vars, dfs, h)
  | r => r := rfl
theorem run_loop (a : C) : run cl yl N rd (.loop a) vars h = loopF (run cl yl N rd a) N vars h := rfl
theorem run_exit (n : Nat) : run cl yl N rd (.exit n) vars h = some (.exit n, vars, [], h) := rfl
theorem run_ret : run cl yl N rd .ret vars h = some (.ret, vars, [], h) := rfl
theorem run_scope (a : C) : run cl yl N rd (.scope a) vars h = run cl yl N rd a vars h := rfl
theorem run_range (x : X) (pars : List Nat) (a b : C) : run cl yl N rd (.range x pars a b) vars h = runRange cl rd x pars a b vars h := rfl
end

def evDfs (p : Nat → Option Fn) (cl : CallF) (dfs : Dfs) : H → Option H :=
  List.rec (fun h => some h) (fun d _ ih h => match p d.1 with
    | some fn => if fn.body.nor then (match cl d.1 d.2 h with | some (_, h) => ih h | none => none) else none
    | none => none) dfs

theorem evDfs_nil (p : Nat → Option Fn) (cl : CallF) (h : H) : evDfs p cl [] h = some h := rfl
theorem evDfs_cons (p : Nat → Option Fn) (cl : CallF) (g : Nat) (args : List V) (r : Dfs) (h : H) : evDfs p cl ((g, args) :: r) h = match p g with
    | some fn => if fn.body.nor then (match cl g args h with | some (_, h) => evDfs p cl r h | none => none) else none
    | none => none := rfl
/-- A function's call. -/
def callF (p : Nat → Option Fn) (cl yl : CallF) (N : Nat) : CallF := fun g args h =>
  match p g with
  | none => none
  | some fn =>
    if args.length = fn.nargs then
      match run cl yl N none fn.body (initV fn args) h with
      | some (.norm, vars, dfs, h) | some (.ret, vars, dfs, h) =>
        match evDfs p cl dfs h with
        | some h => (allSome (fn.results.map (resV vars h))).map fun vs => (tupV vs, h)
        | none => none
      | _ => none
    else none

/-- A call of yield: a round. -/
def yieldF (cl yl : CallF) (N : Nat) : CallF := fun id args h =>
  match h.get id with
  | some (.loop r) =>
    if args.length = r.pars.length then
      match run cl yl N (some id) r.assign ((r.pars.zip args).foldl (fun vs q => vs.set q.1 q.2) r.vars) h with
      | some (.norm, vars, _, h) =>
        match h.get id with
        | some (.loop r2) =>
          if r2.st = .ready then
            match run cl yl N (some id) r.body vars (h.set id (some (.loop { r2 with st := .busy }))) with
            | some (e, _, _, h) =>
              match h.get id with
              | some (.loop r3) =>
                (match e with
                | .norm => some (.bool true, h.set id (some (.loop { r3 with st := .ready, pend := none })))
                | e => some (.bool false, h.set id (some (.loop { r3 with st := .done, pend := some e }))))
              | _ => none
            | none => none
          else none
        | _ => none
      | _ => none
    else none
  | _ => none

/-- Calls and rounds, at most 'f' deep. -/
def lev (p : Nat → Option Fn) (N f : Nat) : CallF × CallF :=
  Nat.rec (fun _ _ _ => none, fun _ _ _ => none) (fun _ q => (callF p q.1 q.2 N, yieldF q.1 q.2 N)) f

def evCall (p : Nat → Option Fn) (N f : Nat) : CallF := (lev p N f).1
theorem lev_zero (p : Nat → Option Fn) (N : Nat) : lev p N 0 = (fun _ _ _ => none, fun _ _ _ => none) := rfl
theorem lev_succ (p : Nat → Option Fn) (N f : Nat) : lev p N (f + 1) = (callF p (lev p N f).1 (lev p N f).2 N, yieldF (lev p N f).1 (lev p N f).2 N) := rfl

end
end Go.Ay

