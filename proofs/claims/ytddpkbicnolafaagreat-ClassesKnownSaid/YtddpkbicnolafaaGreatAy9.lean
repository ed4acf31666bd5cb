/- One operation, whole: the other kinds. -/
import Derived.Test.YtddpkbicnolafaaGreatAy8b
namespace Go.Ay
open Go

section
variable {P : Program} {m : M} {h : H} {w : World} {o : Oper} {a : Act} {v : V} {h' : H} {nt : Nat} {pv defs : List Nat} {vars loc : List V}

theorem zero_info {t : TypeId} {zu : V} (hz : zeroT P t = some zu) : ∃ i z, P.info? t = some i ∧ i.zero = some z := by
  unfold zeroT at hz
  cases hi : P.info? t with
  | none => simp [hi] at hz
  | some i =>
    cases hzz : i.zero with
    | none => simp [hi, hzz] at hz
    | some z => exact ⟨i, z, rfl, hzz⟩

theorem opt_pair' {β : Type} {x : Option β} {h h' : H} {v : β} (he : x.map (fun y => (y, h)) = some (v, h')) : x = some v ∧ h = h' := by
  cases x with
  | none => simp at he
  | some u => simp at he; exact ⟨by rw [he.1], he.2⟩

theorem ldN_eq {t : TypeId} {agg : Bool} {n : Nat} (h : ldN P t = some (agg, n)) : aggOf P t = some agg ∧ (if agg then sizeT P t else some 1) = some n := by
  unfold ldN at h
  split at h
  · rename_i ha
    simp only [Option.map_eq_some_iff] at h
    obtain ⟨k, hk, h⟩ := h
    cases h
    exact ⟨ha, hk⟩
  · cases h; exact ⟨by assumption, rfl⟩
  · cases h

theorem bin_goal (s : St m nt pv defs vars loc a) (hr : HR P m h w) (hf : Fresh m h.next) {op : BinOp} {t ty : TypeId} {x y : Operand} (hop : o.op = .binOp op t x y ty) {k : IntKind} {cx cy : X}
    (hcx : compX pv defs x = some cx) (hcy : compX pv defs y = some cy) (he : evI (xv vars loc) h (.bin op k cx cy) = some (v, h')) : Goal P m h w o a v h' := by
  have hvx := compX_sound s hcx
  have hvy := compX_sound s hcy
  simp only [evI] at he
  split at he
  · rename_i j b j' b' hx hy
    rw [hx] at hvx
    rw [hy] at hvy
    split at he
    · rename_i hjk
      obtain ⟨he2, rfl⟩ := opt_pair' he
      obtain ⟨rfl, rfl⟩ := hjk
      obtain ⟨z, h1, h2⟩ := arith_sound (P := P) (m := m) (w := w) he2 t
      refine Comes1.goal (s := do eqGuard op t x y (a.eval x) (a.eval y); binOp op t (a.eval x) (a.eval y)) (Comes1.still hr hf (x := z) ?_ h2) (by simp only [execOp, hop])
      rw [show a.eval x = .int _ b from hvx, show a.eval y = .int _ b' from hvy]
      simp [eqGuard_int, h1]
    · cases he
  · cases he

theorem shf_goal (s : St m nt pv defs vars loc a) (hr : HR P m h w) (hf : Fresh m h.next) {op : BinOp} {t ty : TypeId} {x y : Operand} (hop : o.op = .binOp op t x y ty) {k : IntKind} {cx cy : X}
    (hcx : compX pv defs x = some cx) (hcy : compX pv defs y = some cy) (he : evI (xv vars loc) h (.shf op k cx cy) = some (v, h')) : Goal P m h w o a v h' := by
  have hvx := compX_sound s hcx
  have hvy := compX_sound s hcy
  simp only [evI] at he
  split at he
  · rename_i j b j' b' hx hy
    rw [hx] at hvx
    rw [hy] at hvy
    split at he
    · rename_i hjk
      obtain ⟨he2, rfl⟩ := opt_pair' he
      subst hjk
      obtain ⟨z, h1, h2⟩ := shft_sound (P := P) (m := m) (w := w) (j := j') he2 t
      refine Comes1.goal (s := do eqGuard op t x y (a.eval x) (a.eval y); binOp op t (a.eval x) (a.eval y)) (Comes1.still hr hf (x := z) ?_ h2) (by simp only [execOp, hop])
      rw [show a.eval x = .int _ b from hvx, show a.eval y = .int _ b' from hvy]
      simp [eqGuard_int, h1]
    · cases he
  · cases he

theorem equal_bool {t : TypeId} (ht : P.underlying t = some .bool) (x y : Bool) : (Op.equal t (.bool x) (.bool y)).run P w = .ok (x == y) w := by
  have : ∀ d, (Op.equalIn (d + 1) t (.bool x) (.bool y)).run P w = .ok (x == y) w := fun d => by simp [Op.equalIn, run_underlying ht]
  exact this 9999

theorem equal_nils {t e : TypeId} (ht : P.underlying t = some (.slice e)) : (Op.equal t (.slice none 0 0) (.slice none 0 0)).run P w = .ok true w := by
  have : ∀ d, (Op.equalIn (d + 1) t (.slice none 0 0) (.slice none 0 0)).run P w = .ok true w := fun d => by simp [Op.equalIn, run_underlying ht]
  exact this 9999

theorem equal_snil {t e : TypeId} (ht : P.underlying t = some (.slice e)) (b : Addr) (n c : Nat) : (Op.equal t (.slice (some b) n c) (.slice none 0 0)).run P w = .ok false w := by
  have : ∀ d, (Op.equalIn (d + 1) t (.slice (some b) n c) (.slice none 0 0)).run P w = .ok false w := fun d => by simp [Op.equalIn, run_underlying ht]
  exact this 9999

theorem eq_goal (s : St m nt pv defs vars loc a) (hr : HR P m h w) (hf : Fresh m h.next) {op : BinOp} (ho : op = .eql ∨ op = .neq) {t ty : TypeId} {x y : Operand} (hop : o.op = .binOp op t x y ty) (ht : P.underlying t = some .bool) {cx cy : X}
    (hcx : compX pv defs x = some cx) (hcy : compX pv defs y = some cy) {neg : Bool} (hneg : neg = (op matches .neq)) (he : evI (xv vars loc) h (.beq neg cx cy) = some (v, h')) : Goal P m h w o a v h' := by
  have hvx := compX_sound s hcx
  have hvy := compX_sound s hcy
  simp only [evI] at he
  split at he
  · rename_i b b' hx hy
    rw [hx] at hvx
    rw [hy] at hvy
    cases he
    refine Comes1.goal (s := do eqGuard op t x y (a.eval x) (a.eval y); binOp op t (a.eval x) (a.eval y)) (Comes1.still hr hf (x := .bool (if neg then !(b == b') else b == b')) ?_ rfl) (by simp only [execOp, hop])
    rw [show a.eval x = .bool b from hvx, show a.eval y = .bool b' from hvy]
    subst hneg
    rcases ho with rfl | rfl <;> simp [eqGuard_bool, binOp, equal_bool ht]
  · cases he

theorem snil_goal (s : St m nt pv defs vars loc a) (hr : HR P m h w) (hf : Fresh m h.next) {op : BinOp} (ho : op = .eql ∨ op = .neq) {t ty e : TypeId} {x y : Operand} (hop : o.op = .binOp op t x y ty) (hy : a.eval y = .slice none 0 0) (ht : P.underlying t = some (.slice e)) {cx : X}
    (hcx : compX pv defs x = some cx) {neg : Bool} (hneg : neg = (op matches .neq)) (he : evI (xv vars loc) h (.snil neg cx) = some (v, h')) : Goal P m h w o a v h' := by
  have hvx := compX_sound s hcx
  simp only [evI] at he
  split at he
  · rename_i hx
    rw [hx] at hvx
    cases he
    refine Comes1.goal (s := do eqGuard op t x y (a.eval x) (a.eval y); binOp op t (a.eval x) (a.eval y)) (Comes1.still hr hf (x := .bool (!neg)) ?_ rfl) (by simp only [execOp, hop])
    rw [show a.eval x = .slice none 0 0 from hvx, hy]
    subst hneg
    rcases ho with rfl | rfl <;> simp [eqGuard_slice, binOp, equal_nils ht]
  · rename_i id off len cap hx
    rw [hx] at hvx
    cases he
    obtain ⟨p, c, o', hp, hxe, _⟩ := hvx
    refine Comes1.goal (s := do eqGuard op t x y (a.eval x) (a.eval y); binOp op t (a.eval x) (a.eval y)) (Comes1.still hr hf (x := .bool neg) ?_ rfl) (by simp only [execOp, hop])
    rw [hxe, hy]
    subst hneg
    rcases ho with rfl | rfl <;> simp [eqGuard_slice, binOp, equal_snil ht]
  · rename_i ad hx
    rw [hx] at hvx
    cases he
    have hxe : a.eval x = .slice (some ad) 0 0 := hvx
    refine Comes1.goal (s := do eqGuard op t x y (a.eval x) (a.eval y); binOp op t (a.eval x) (a.eval y)) (Comes1.still hr hf (x := .bool neg) ?_ rfl) (by simp only [execOp, hop])
    rw [hxe, hy]
    subst hneg
    rcases ho with rfl | rfl <;> simp [eqGuard_slice, binOp, equal_snil ht]
  · cases he

/-- THE OPERATIONS. -/
theorem op_sound (s : St m nt pv defs vars loc a) (hr : HR P m h w) (hf : Fresh m h.next) {i : I} (hc : compOp P pv defs o = some (.op i)) (he : evI (xv vars loc) h i = some (v, h')) : Goal P m h w o a v h' := by
  unfold compOp at hc
  cases hop : o.op <;> simp only [hop] at hc <;> try (cases hc; done)
  case move x =>
    simp only [Option.map_eq_some_iff, Act1.op.injEq] at hc
    obtain ⟨cx, hcx, rfl⟩ := hc
    simp only [evI] at he; cases he
    exact goal_pure hr hf (by simp only [execOp, hop]) (compX_sound s hcx)
  case assign x =>
    simp only [Option.map_eq_some_iff, Act1.op.injEq] at hc
    obtain ⟨cx, hcx, rfl⟩ := hc
    simp only [evI] at he; cases he
    exact goal_pure hr hf (by simp only [execOp, hop]) (compX_sound s hcx)
  case pick c x y =>
    simp only [Option.bind_eq_bind, Option.bind_eq_some_iff] at hc
    obtain ⟨cc, hcc, cx, hcx, cy, hcy, hc⟩ := hc
    cases hc
    have hvc := compX_sound s hcc
    simp only [evI] at he
    split at he
    · rename_i t ht
      rw [ht] at hvc
      cases he
      refine Comes1.goal (s := do pure (if ← asBool (a.eval c) then a.eval x else a.eval y)) (Comes1.still hr hf (x := if t then a.eval x else a.eval y) ?_ ?_) (by simp only [execOp, hop]; simp)
      · rw [show a.eval c = .bool t from hvc]; simp [asBool]
      · cases t
        · simpa using compX_sound s hcy
        · simpa using compX_sound s hcx
    · cases he
  case alloc e =>
    simp only [Option.bind_eq_bind, Option.bind_eq_some_iff] at hc
    obtain ⟨zu, hz, hc⟩ := hc
    cases hc
    simp only [evI] at he
    cases he
    obtain ⟨i2, z, hi, hz1⟩ := zero_info hz
    obtain ⟨hzc, hzo, _⟩ := zero_cells m hz hi hz1
    have hadv := new_sound hr hf [] hzc hzo e
    simp only [List.append_nil, Array.toArray_toList] at hadv
    refine Comes1.goal (s := Instr.alloc e true (.tuple #[])) ⟨.pointer (some ⟨w.heap.size, 0, none⟩), _, _, ?_, ⟨_, M.set_same .., rfl⟩, hadv⟩ (by simp only [execOp, hop])
    simp [Instr.alloc, zeroValue, typeInfo, hi, hz1, newVar, newRow]
  case box e x =>
    simp only [Option.map_eq_some_iff, Act1.op.injEq] at hc
    obtain ⟨cx, hcx, rfl⟩ := hc
    simp only [evI] at he
    split at he
    · rename_i hone
      cases he
      have hv := VR.cells (compX_sound s hcx) hone
      have hadv := new_sound hr hf [] hv (fun c hc => (List.all_eq_true.1 hone) c hc) e
      simp only [List.append_nil, Array.toArray_toList] at hadv
      refine Comes1.goal (s := Instr.box e (a.eval x)) ⟨.pointer (some ⟨w.heap.size, 0, none⟩), _, _, ?_, ⟨_, M.set_same .., rfl⟩, hadv⟩ (by simp only [execOp, hop])
      simp [Instr.box, newVar, newRow]
    · cases he
  case build t parts =>
    simp only [Option.bind_eq_bind, Option.bind_eq_some_iff] at hc
    obtain ⟨ps, hps, zu, hz, pl, hpl, hc⟩ := hc
    cases hc
    simp only [evI, Option.map_eq_some_iff] at he
    obtain ⟨us, hus, he⟩ := he
    cases he
    obtain ⟨h1, h2⟩ := parts_sound s (f := fun p x => (p.1, x)) hps (fun _ _ => rfl)
    refine Comes1.goal (s := Instr.build t (parts.map fun (i, x) => (i, a.eval x))) (bld_sound hr hf hz hpl h1 (fun j b q hb hq => ?_) hus) (by simp only [execOp, hop])
    obtain ⟨p, hp, e1, e2, e3⟩ := h2 j b q hb hq
    exact ⟨by rw [e1, e2], e3⟩
  case buildSlice t n parts =>
    simp only [Option.bind_eq_bind, Option.bind_eq_some_iff] at hc
    obtain ⟨e, hel, sz, hsz, hc⟩ := hc
    split at hc
    · cases hc
    · rename_i hnz
      have hz0 : sz ≠ 0 := fun e => hnz (.inl e)
      have hsm : ¬ n * sz > 2 ^ 24 := fun e => hnz (.inr (.inl e))
      have hzs : zsz P e sz = true := by cases hq : zsz P e sz with
        | true => rfl
        | false => exact absurd (.inr (.inr hq)) hnz
      simp only [Option.bind_eq_some_iff] at hc
      obtain ⟨ps, hps, zu, hz, hc⟩ := hc
      cases hc
      simp only [evI] at he
      split at he
      · rename_i us hus
        split at he
        · rename_i hone
          cases he
          obtain ⟨a1, a2⟩ := allSome_map hps
          refine Comes1.goal (s := Instr.buildSlice t n (parts.map fun (i, x) => (i, a.eval x))) (bls_sound hr hf (elemT_eq hel) hsz hz hzs hz0 hsm (by simpa using a1) (fun j b q hb hq => ?_) hus (fun c hc => (List.all_eq_true.1 hone) c hc)) (by simp only [execOp, hop])
          simp only [List.getElem?_map, Option.map_eq_some_iff] at hb
          obtain ⟨p, hp, rfl⟩ := hb
          simp only [Array.toList_map, List.getElem?_map, Option.map_eq_some_iff] at hq
          obtain ⟨r, hr1, rfl⟩ := hq
          obtain ⟨b', hb', hf'⟩ := a2 j r hr1
          rw [hp] at hb'; cases hb'
          simp only [Option.map_eq_some_iff] at hf'
          obtain ⟨x, hx, rfl⟩ := hf'
          exact ⟨rfl, compX_sound s hx⟩
        · cases he
      · cases he
  case load t x =>
    split at hc
    · rename_i q hq
      obtain ⟨agg, n⟩ := q
      simp only [Option.map_eq_some_iff, Act1.op.injEq] at hc
      obtain ⟨cx, hcx, rfl⟩ := hc
      simp only [evI] at he
      obtain ⟨he2, rfl⟩ := opt_pair' he
      obtain ⟨y, h1, h2⟩ := ld_sound hr (ldN_eq hq).1 (ldN_eq hq).2 (compX_sound s hcx) he2
      exact Comes1.goal (s := Instr.loadAt t (a.eval x)) (Comes1.still hr hf h1 h2) (by simp only [execOp, hop])
    · cases hc
  case store t x y =>
    simp only [Option.bind_eq_bind, Option.bind_eq_some_iff] at hc
    obtain ⟨n, hn, cx, hcx, cy, hcy, hc⟩ := hc
    cases hc
    have hvx := compX_sound s hcx
    have hvy := compX_sound s hcy
    simp only [evI] at he
    split at he
    · rename_i id off hx
      rw [hx] at hvx
      split at he
      · rename_i hcond
        simp only [Option.map_eq_some_iff] at he
        obtain ⟨h2, hput, he⟩ := he
        cases he
        obtain ⟨p, hp, hxe⟩ := hvx
        obtain ⟨w', hst, hadv⟩ := put_sound hr hf hput (VR.cells hvy hcond.2) (fun c hc => (List.all_eq_true.1 hcond.2) c hc) hp
        refine goal_skip (s := Instr.storeAt t (a.eval x) (a.eval y)) (by simp only [execOp, hop]) ?_ hadv
        have hcs : (a.eval y).cells.size = n := by
          have := VRs.length (VR.cells hvy hcond.2)
          simp at this; omega
        rw [hxe]
        simp [Instr.storeAt, Instr.sureAddr, storeVar, run_sizeOf_of hn, hcs, hst]
      · cases he
    · cases he
  case nilCheck x =>
    simp only [Option.map_eq_some_iff, Act1.op.injEq] at hc
    obtain ⟨cx, hcx, rfl⟩ := hc
    have hvx := compX_sound s hcx
    simp only [evI] at he
    split at he
    · rename_i id off hx
      rw [hx] at hvx
      cases he
      obtain ⟨p, hp, hxe⟩ := hvx
      refine goal_pure hr hf (x := .pointer (some ⟨p.1, p.2.1 + off, none⟩)) ?_ ⟨p, hp, rfl⟩
      simp only [execOp, hop, hxe]
    · cases he
  case binOp op t x y ty =>
    cases op <;> simp only at hc <;> try (cases hc; done)
    all_goals first
      | (simp only [Option.bind_eq_bind, Option.bind_eq_some_iff] at hc
         obtain ⟨k, hk, cx, hcx, cy, hcy, hc⟩ := hc
         cases hc
         exact bin_goal s hr hf hop hcx hcy he)
      | (simp only [Option.bind_eq_bind, Option.bind_eq_some_iff] at hc
         obtain ⟨k, hk, cx, hcx, cy, hcy, hc⟩ := hc
         cases hc
         exact shf_goal s hr hf hop hcx hcy he)
      | skip
    all_goals
      split at hc
      · simp only [Option.bind_eq_bind, Option.bind_eq_some_iff] at hc
        obtain ⟨cx, hcx, cy, hcy, hc⟩ := hc
        cases hc
        exact bin_goal s hr hf hop hcx hcy he
      · rename_i hk
        simp only [Option.bind_eq_bind, Option.bind_eq_some_iff] at hc
        obtain ⟨cx, hcx, cy, hcy, hc⟩ := hc
        cases hc
        exact eq_goal s hr hf (by simp) hop hk hcx hcy rfl he
      · rename_i e hk
        split at hc
        · simp only [Option.bind_eq_bind, Option.bind_eq_some_iff] at hc
          obtain ⟨cx, hcx, hc⟩ := hc
          cases hc
          exact snil_goal s hr hf (by simp) hop rfl hk hcx rfl he
        · cases hc
      · cases hc
  case unOp op t x =>
    cases op <;> simp only at hc <;> try (cases hc; done)
    · simp only [Option.bind_eq_bind, Option.bind_eq_some_iff] at hc
      obtain ⟨k, hk, cx, hcx, hc⟩ := hc
      cases hc
      have hvx := compX_sound s hcx
      simp only [evI] at he
      split at he
      · rename_i j b hx
        rw [hx] at hvx
        split at he
        · rename_i hjk
          subst hjk
          cases he
          refine Comes1.goal (s := Op.unary .neg (a.eval x)) (Comes1.still hr hf (x := .int j (j.wrap (0 - b))) ?_ rfl) (by simp only [execOp, hop])
          rw [show a.eval x = .int _ b from hvx]
          simp [Op.unary, Op.intArith]
        · cases he
      · cases he
    · simp only [Option.map_eq_some_iff, Act1.op.injEq] at hc
      obtain ⟨cx, hcx, rfl⟩ := hc
      have hvx := compX_sound s hcx
      simp only [evI] at he
      split at he
      · rename_i b hx
        rw [hx] at hvx
        cases he
        refine Comes1.goal (s := Op.unary .not (a.eval x)) (Comes1.still hr hf (x := .bool (!b)) ?_ rfl) (by simp only [execOp, hop])
        rw [show a.eval x = .bool b from hvx]
        simp [Op.unary]
      · cases he
  case convert src dst x =>
    split at hc
    · rename_i k0 k hs hd
      simp only [Option.map_eq_some_iff, Act1.op.injEq] at hc
      obtain ⟨cx, hcx, rfl⟩ := hc
      have hvx := compX_sound s hcx
      simp only [evI] at he
      split at he
      · rename_i j b hx
        rw [hx] at hvx
        cases he
        refine Comes1.goal (s := convert src dst (a.eval x)) (Comes1.still hr hf (x := .int k (k.wrap b)) ?_ rfl) (by simp only [execOp, hop])
        rw [show a.eval x = .int _ b from hvx]
        simp [convert, run_underlying hs, run_underlying hd, Conv.intToInt]
      · cases he
    · rename_i e hs hd
      split at hc
      · rename_i hel
        simp only [Option.map_eq_some_iff, Act1.op.injEq] at hc
        obtain ⟨cx, hcx, rfl⟩ := hc
        have hvx := compX_sound s hcx
        simp only [evI] at he
        obtain ⟨he2, rfl⟩ := opt_pair' he
        exact Comes1.goal (s := convert src dst (a.eval x)) (cvs_sound hr hf hs hd hel hvx he2) (by simp only [execOp, hop])
      · cases hc
    · cases hc
  case makeFunc fn first cs =>
    cases fn <;> simp only at hc <;> try (cases hc; done)
    rename_i f
    split at hc
    · simp only [Option.bind_eq_bind, Option.bind_eq_some_iff] at hc
      obtain ⟨cf, hcf, cc, hcc, hc⟩ := hc
      cases hc
      simp only [evI] at he
      cases he
      refine Comes1.goal (s := Instr.makeFunc (.func f) (first.map a.eval) (cs.map a.eval)) (Comes1.still hr hf (x := .func (.func f) (first.map a.eval) (cs.map a.eval)) rfl ⟨_, _, rfl, ?_, ?_⟩) (by simp only [execOp, hop])
      · simpa using compXs_sound s hcf
      · simpa using compXs_sound s hcc
    · cases hc
  case makeMap t r =>
    split at hc
    · rename_i kt et ht
      split at hc
      · rename_i sh hsh
        simp only [Option.map_eq_some_iff, Act1.op.injEq] at hc
        obtain ⟨cr, hcr, rfl⟩ := hc
        have hvr := compXo_sound s hcr
        simp only [evI] at he
        split at he
        · rename_i hint
          cases he
          have hadv := Adv.new hr hf (.wmap sh []) (.map #[] 0) (0, 0) (fun m' _ _ => ⟨fun i j a b hi => by simp at hi, #[], 0, heap_alloc_new w _, rfl, rfl, fun i k v hi => by simp at hi⟩)
          refine Comes1.goal (s := Instr.makeMap t (r.map a.eval)) ⟨.map (some w.heap.size), _, _, ?_, ⟨_, M.set_same .., rfl⟩, hadv⟩ (by simp only [execOp, hop])
          cases r with
          | none => simp [Instr.makeMap]
          | some x =>
            cases cr with
            | none => exact hvr.elim
            | some cx =>
              simp only [Option.map_some, optInt] at hint
              have hvx : VR m (xv vars loc cx) (a.eval x) := hvr
              cases hxx : xv vars loc cx <;> rw [hxx] at hint <;> simp only [isIntV, Bool.false_eq_true] at hint
              rename_i k n
              rw [hxx] at hvx
              have hxe : a.eval x = .int k n := hvx
              simp [Instr.makeMap, hxe, run_underlying ht, asInt, asIntOf]
        · cases he
      · split at hc
        · cases hc
          simp only [evI] at he
          cases he
          have hadv := Adv.new hr hf (.map []) (.map #[] 0) (0, 0) (fun m' _ _ => ⟨#[], 0, heap_alloc_new w _, rfl, fun i k v hi => by simp at hi⟩)
          refine Comes1.goal (s := Instr.makeMap t (Option.map a.eval none)) ⟨.map (some w.heap.size), _, _, ?_, ⟨_, M.set_same .., rfl⟩, hadv⟩ (by simp only [execOp, hop])
          simp [Instr.makeMap]
        · cases hc
    · cases hc
  case makeSlice t l c =>
    simp only [Option.bind_eq_bind, Option.bind_eq_some_iff] at hc
    obtain ⟨e, hel, sz, hsz, hc⟩ := hc
    split at hc
    · cases hc
    · rename_i hnz
      have hz0 : sz ≠ 0 := fun e => hnz (.inl e)
      have hzs : zsz P e sz = true := by cases hq : zsz P e sz with
        | true => rfl
        | false => exact absurd (.inr hq) hnz
      simp only [Option.bind_eq_some_iff] at hc
      obtain ⟨bytes, hb, zu, hz, cl, hcl, cc, hcc, hc⟩ := hc
      cases hc
      simp only [evI] at he
      exact Comes1.goal (s := Instr.makeSlice t (a.eval l) (a.eval c)) (mks_sound hr hf (elemT_eq hel) hsz hb hz hzs hz0 (compX_sound s hcl) (compX_sound s hcc) he) (by simp only [execOp, hop])
  case slice t x lo hi mx =>
    simp only [Option.bind_eq_bind, Option.bind_eq_some_iff] at hc
    obtain ⟨e, hel, sz, hsz, hc⟩ := hc
    split at hc
    · cases hc
    · simp only [Option.bind_eq_some_iff] at hc
      obtain ⟨cx, hcx, cl, hcl, ch, hch, cm, hcm, hc⟩ := hc
      cases hc
      simp only [evI] at he
      obtain ⟨he2, rfl⟩ := opt_pair' he
      exact Comes1.goal (s := Instr.sliceAt t (a.eval x) (lo.map a.eval) (hi.map a.eval) (mx.map a.eval)) (slc_sound hr hf (elemT_eq hel) hsz (compX_sound s hcx) (compXo_sound s hcl) (compXo_sound s hch) (compXo_sound s hcm) he2) (by simp only [execOp, hop])
  case fieldAddr t x f =>
    simp only [Option.bind_eq_bind, Option.bind_eq_some_iff] at hc
    obtain ⟨fd, hfd, hc⟩ := hc
    split at hc
    · cases hc
    · rename_i hsz
      simp only [Option.bind_eq_some_iff] at hc
      obtain ⟨cx, hcx, hc⟩ := hc
      cases hc
      have hvx := compX_sound s hcx
      simp only [evI] at he
      split at he
      · rename_i id off hx
        rw [hx] at hvx
        cases he
        obtain ⟨p, hp, hxe⟩ := hvx
        obtain ⟨fs, hfs, hf2⟩ := fieldT_eq hfd
        cases hsz2 : sizeT P fd.type with
        | none => simp [hsz2] at hsz
        | some n =>
          have hn : ¬ n = 0 := by simpa [hsz2] using hsz
          refine Comes1.goal (s := Instr.fieldAt t (a.eval x) f) (Comes1.still hr hf (x := .pointer (some ⟨p.1, p.2.1 + (off + fd.offset), none⟩)) ?_ ⟨p, hp, rfl⟩) (by simp only [execOp, hop])
          rw [hxe]
          simp [Instr.fieldAt, run_underlying hfs, hf2, Instr.sureAddr, fieldPlace, run_sizeOf_of hsz2, hn, addr_add, Nat.add_assoc]
      · cases he
  case field t x f =>
    simp only [Option.bind_eq_bind, Option.bind_eq_some_iff] at hc
    obtain ⟨fd, hfd, agg, hag, n, hn, cx, hcx, hc⟩ := hc
    cases hc
    have hvx := compX_sound s hcx
    obtain ⟨fs, hfs, hf2⟩ := fieldT_eq hfd
    simp only [evI] at he
    split at he
    · rename_i vs hx
      rw [hx] at hvx
      obtain ⟨xs, hxe, hvr⟩ := hvx
      cases agg with
      | true =>
        simp only [if_true, Option.map_eq_some_iff] at he
        obtain ⟨ws, hws, he⟩ := he
        cases he
        obtain ⟨rfl, hle, hl⟩ := sub_eq hws
        refine Comes1.goal (s := Instr.field t (a.eval x) f) (Comes1.still hr hf (x := .agg (xs.extract fd.offset (fd.offset + n))) ?_ ⟨_, rfl, ?_⟩) (by simp only [execOp, hop])
        · rw [hxe]
          simp [Instr.field, run_underlying hfs, hf2, part, asAgg, run_isAgg_of hag, run_sizeOf_of hn]
        · have : (xs.extract fd.offset (fd.offset + n)).toList = (xs.toList.drop fd.offset).take n := by
            simp [List.extract_eq_take_drop]
          rw [this]
          exact (hvr.drop _).take _
      | false =>
        simp only [Bool.false_eq_true, if_false] at he
        obtain ⟨he2, rfl⟩ := opt_pair' he
        obtain ⟨y, hy, hvy⟩ := hvr.get he2
        refine Comes1.goal (s := Instr.field t (a.eval x) f) (Comes1.still hr hf (x := y) ?_ hvy) (by simp only [execOp, hop])
        rw [hxe]
        have hy' : xs[fd.offset]? = some y := by simpa using hy
        simp [Instr.field, run_underlying hfs, hf2, part, asAgg, run_isAgg_of hag, hy']
    · cases he
  case indexAddr t x ix =>
    split at hc
    · rename_i n e k z hu
      split at hc
      · rename_i hb
        simp only [Option.bind_eq_bind, Option.bind_eq_some_iff] at hc
        obtain ⟨sz, hsz, cx, hcx, hc⟩ := hc
        cases hc
        have hvx := compX_sound s hcx
        simp only [evI] at he
        split at he
        · rename_i id off hx
          rw [hx] at hvx
          cases he
          obtain ⟨p, hp, hxe⟩ := hvx
          refine Comes1.goal (s := Instr.indexAt t (a.eval x) (.int k z)) (Comes1.still hr hf (x := .pointer (some ⟨p.1, p.2.1 + (off + z.toNat * sz), none⟩)) ?_ ⟨p, hp, rfl⟩) (by simp only [execOp, hop]; rfl)
          rw [hxe]
          simp [Instr.indexAt, asIntOf, run_underlying hu, Instr.sureAddr, run_sizeOf_of hsz, hb.1, hb.2, addr_add, Nat.add_assoc]
        · cases he
      · cases hc
    · rename_i n e hu _
      simp only [Option.bind_eq_bind, Option.bind_eq_some_iff] at hc
      obtain ⟨sz, hsz, cx, hcx, ci, hci, hc⟩ := hc
      cases hc
      have hvx := compX_sound s hcx
      have hvi := compX_sound s hci
      simp only [evI] at he
      obtain ⟨he2, rfl⟩ := opt_pair' he
      unfold ixdV at he2
      split at he2
      · rename_i id off k z hx hi
        rw [hx] at hvx
        rw [hi] at hvi
        split at he2
        · rename_i hb
          cases he2
          obtain ⟨p, hp, hxe⟩ := hvx
          refine Comes1.goal (s := Instr.indexAt t (a.eval x) (.int k z)) (Comes1.still hr hf (x := .pointer (some ⟨p.1, p.2.1 + (off + z.toNat * sz), none⟩)) ?_ ⟨p, hp, rfl⟩) (by simp only [execOp, hop]; rw [show a.eval _ = .int k z from hvi])
          rw [hxe]
          simp [Instr.indexAt, asIntOf, run_underlying hu, Instr.sureAddr, run_sizeOf_of hsz, hb.1, hb.2, addr_add, Nat.add_assoc]
        · cases he2
      · cases he2
    · simp only [Option.bind_eq_bind, Option.bind_eq_some_iff] at hc
      obtain ⟨e, hel, sz, hsz, cx, hcx, ci, hci, hc⟩ := hc
      cases hc
      have hvx := compX_sound s hcx
      have hvi := compX_sound s hci
      simp only [evI] at he
      obtain ⟨he2, rfl⟩ := opt_pair' he
      unfold ixaV at he2
      split at he2
      · rename_i id off len cap k n hx hi
        rw [hx] at hvx
        rw [hi] at hvi
        split at he2
        · rename_i hb
          cases he2
          obtain ⟨p, c, o', hp, hxe, _, ho, _⟩ := hvx
          obtain rfl := ho (by omega)
          refine Comes1.goal (s := Instr.indexAt t (a.eval x) (.int k n)) (Comes1.still hr hf (x := .pointer (some ⟨p.1, p.2.1 + (o' + n.toNat * sz), none⟩)) ?_ ⟨p, hp, rfl⟩) (by simp only [execOp, hop]; rw [show a.eval _ = .int k n from hvi])
          rw [hxe]
          simp [Instr.indexAt, asIntOf, run_underlying (elemT_eq hel), run_sizeOf_of hsz, hb.1, hb.2, addr_add, Nat.add_assoc]
        · cases he2
      · cases he2
  case lookup t x k ok =>
    split at hc
    · rename_i kt et ht
      split at hc
      · rename_i sh hsh
        simp only [Option.bind_eq_bind, Option.bind_eq_some_iff] at hc
        obtain ⟨zu, hz, cx, hcx, ck, hck, hc⟩ := hc
        cases hc
        have hvx := compX_sound s hcx
        have hvk := compX_sound s hck
        simp only [evI] at he
        split at he
        · rename_i id hx
          rw [hx] at hvx
          split at he
          · rename_i sh2 es hg
            split at he
            · rename_i hkey
              obtain ⟨rfl, hkey⟩ := hkey
              have hs := lkw_sound hr hf ht hsh hz hvx hvk hg hkey ok
              split at he
              · rename_i u hu
                cases he
                rw [hu] at hs
                exact Comes1.goal (s := Instr.lookup t (a.eval x) (a.eval k) ok) hs (by simp only [execOp, hop])
              · rename_i hu
                cases he
                rw [hu] at hs
                exact Comes1.goal (s := Instr.lookup t (a.eval x) (a.eval k) ok) hs (by simp only [execOp, hop])
            · cases he
          · cases he
        · cases he
      simp only [Option.bind_eq_bind, Option.bind_eq_some_iff] at hc
      obtain ⟨j, hj, zu, hz, cx, hcx, ck, hck, hc⟩ := hc
      cases hc
      have hvx := compX_sound s hcx
      have hvk := compX_sound s hck
      simp only [evI] at he
      split at he
      · rename_i id kk n hx hk
        rw [hx] at hvx
        rw [hk] at hvk
        split at he
        · rename_i es hg
          split at he
          · rename_i hkeys
            have hs := lkp_sound hr hf ht (run_underlying_int hj) hz hvx hvk hg hkeys ok
            split at he
            · rename_i u hu
              cases he
              rw [hu] at hs
              exact Comes1.goal (s := Instr.lookup t (a.eval x) (a.eval k) ok) hs (by simp only [execOp, hop])
            · rename_i hu
              cases he
              rw [hu] at hs
              exact Comes1.goal (s := Instr.lookup t (a.eval x) (a.eval k) ok) hs (by simp only [execOp, hop])
          · cases he
        · cases he
      · cases he
    · cases hc
  case mapUpdate t x k y =>
    split at hc
    · rename_i kt et ht
      split at hc
      · rename_i sh hsh
        simp only [Option.bind_eq_bind, Option.bind_eq_some_iff] at hc
        obtain ⟨cx, hcx, ck, hck, cy, hcy, hc⟩ := hc
        cases hc
        have hvx := compX_sound s hcx
        have hvk := compX_sound s hck
        have hvy := compX_sound s hcy
        simp only [evI] at he
        split at he
        · rename_i id hx
          rw [hx] at hvx
          split at he
          · rename_i sh2 es hg
            split at he
            · rename_i hkey
              obtain ⟨rfl, hkey⟩ := hkey
              cases he
              obtain ⟨w', h1, h2⟩ := msw_sound hr hf ht hsh hvx hvk hvy hg hkey
              exact goal_skip (s := Instr.mapUpdate t (a.eval x) (a.eval k) (a.eval y)) (by simp only [execOp, hop]) h1 h2
            · cases he
          · cases he
        · cases he
      simp only [Option.bind_eq_bind, Option.bind_eq_some_iff] at hc
      obtain ⟨j, hj, cx, hcx, ck, hck, cy, hcy, hc⟩ := hc
      cases hc
      have hvx := compX_sound s hcx
      have hvk := compX_sound s hck
      have hvy := compX_sound s hcy
      simp only [evI] at he
      split at he
      · rename_i id kk n hx hk
        rw [hx] at hvx
        rw [hk] at hvk
        split at he
        · rename_i es hg
          split at he
          · rename_i hkeys
            cases he
            obtain ⟨w', h1, h2⟩ := mset_sound hr hf ht (run_underlying_int hj) hvx hvk hvy hg hkeys
            exact goal_skip (s := Instr.mapUpdate t (a.eval x) (a.eval k) (a.eval y)) (by simp only [execOp, hop]) h1 h2
          · cases he
        · cases he
      · cases he
    · cases hc
  case mapEntry t x k =>
    split at hc
    · rename_i kt et ht
      split at hc
      · rename_i sh hsh
        simp only [Option.bind_eq_bind, Option.bind_eq_some_iff] at hc
        obtain ⟨zu, hz, cx, hcx, ck, hck, hc⟩ := hc
        cases hc
        have hvx := compX_sound s hcx
        have hvk := compX_sound s hck
        simp only [evI] at he
        split at he
        · rename_i id hx
          rw [hx] at hvx
          split at he
          · rename_i sh2 es hg
            split at he
            · rename_i hkey
              obtain ⟨rfl, hkey⟩ := hkey
              have hs := ent_sound hr hf ht hsh hz hvx hvk hg hkey
              split at he
              · rename_i u hu
                cases he
                rw [hu] at hs
                exact Comes1.goal (s := Instr.mapEntry t (a.eval x) (a.eval k)) hs (by simp only [execOp, hop])
              · rename_i hu
                cases he
                rw [hu] at hs
                exact Comes1.goal (s := Instr.mapEntry t (a.eval x) (a.eval k)) hs (by simp only [execOp, hop])
            · cases he
          · cases he
        · cases he
      · cases hc
    · cases hc
  case entryStore t x k y =>
    simp only [Option.bind_eq_bind, Option.bind_eq_some_iff] at hc
    obtain ⟨cx, hcx, ck, hck, cy, hcy, hc⟩ := hc
    cases hc
    have hvx := compX_sound s hcx
    have hvk := compX_sound s hck
    have hvy := compX_sound s hcy
    simp only [evI] at he
    split at he
    · rename_i id n hx hk
      rw [hx] at hvx
      rw [hk] at hvk
      split at he
      · rename_i sh es hg
        split at he
        · rename_i hn
          split at he
          · rename_i e hes
            cases he
            obtain ⟨kk, u⟩ := e
            obtain ⟨w', h1, h2⟩ := ens_sound (t := t) hr hf hvx hvy hg hes
            have hke : a.eval k = .int .i64 ((n.toNat : Nat) : Int) := by
              rw [show a.eval k = .int .i64 n from hvk]; congr 1; omega
            rw [← hke] at h1
            exact goal_skip (s := Instr.entryStore t (a.eval x) (a.eval k) (a.eval y)) (by simp only [execOp, hop]) h1 h2
          · cases he
        · cases he
      · cases he
    · cases he
  case index t x ix =>
    split at hc
    · rename_i ht
      simp only [Option.bind_eq_bind, Option.bind_eq_some_iff] at hc
      obtain ⟨cx, hcx, ci, hci, hc⟩ := hc
      cases hc
      have hvx := compX_sound s hcx
      have hvi := compX_sound s hci
      simp only [evI] at he
      split at he
      · rename_i l k z hx hi
        rw [hx] at hvx
        rw [hi] at hvi
        split at he
        · rename_i hz
          simp only [Option.map_eq_some_iff] at he
          obtain ⟨c, hcl, he⟩ := he
          cases he
          refine Comes1.goal (s := Instr.index t (a.eval x) (a.eval ix)) (Comes1.still hr hf (x := .int .u8 ((c % 256 : Nat) : Int)) ?_ rfl) (by simp only [execOp, hop])
          rw [show a.eval x = .string ⟨(l.map UInt8.ofNat).toArray⟩ from hvx, show a.eval ix = .int k z from hvi]
          have hb : (⟨(l.map UInt8.ofNat).toArray⟩ : ByteArray)[z.toNat]? = some (UInt8.ofNat c) := six_get hcl
          simp [Instr.index, asIntOf, run_underlying ht, hz, hb]
        · cases he
      · cases he
    · cases hc
  case extract x i2 =>
    simp only [Option.map_eq_some_iff, Act1.op.injEq] at hc
    obtain ⟨cx, hcx, rfl⟩ := hc
    have hvx := compX_sound s hcx
    simp only [evI] at he
    split at he
    · rename_i vs hx
      rw [hx] at hvx
      obtain ⟨xs, hxe, hvr⟩ := hvx
      obtain ⟨he2, rfl⟩ := opt_pair' he
      obtain ⟨y, hy, hvy⟩ := hvr.get he2
      refine Comes1.goal (s := Instr.extract (a.eval x) i2) (Comes1.still hr hf (x := y) ?_ hvy) (by simp only [execOp, hop])
      have hy' : xs[i2]? = some y := by simpa using hy
      rw [hxe]
      simp [Instr.extract, hy']
    · cases he
  case makeInterface t x =>
    split at hc
    · cases hc; simp [evI] at he
    · rename_i d cx hni hu hcx
      cases hc
      have hvx := compX_sound s hcx
      simp only [evI] at he
      cases he
      refine Comes1.goal (s := Instr.makeInterface t (a.eval x)) (Comes1.still hr hf (x := .iface t (a.eval x)) ?_ ⟨_, rfl, hvx⟩) (by simp only [execOp, hop])
      cases d <;> first
        | (simp [Instr.makeInterface, run_underlying hu]; done)
        | exact (hni _ rfl).elim
    · cases hc; simp [evI] at he
  case panic => cases hc; simp [evI] at he
  case call c => exact call_sound s hr hf hop hc he

end
end Go.Ay

