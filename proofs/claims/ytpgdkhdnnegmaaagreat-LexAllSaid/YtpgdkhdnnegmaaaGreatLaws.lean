/- Laws on operations that the walks of this claim want beside the kit's: a whole row stored into a new variable; a map literal; a look-up by a string. No program in sight. -/
import Derived.Test.YtpgdkhdnnegmaaaGreatBase
import Derived.MapKept
open Go Go.RowKit
namespace Tym

theorem blk_old (w : World) (o : Obj) (i : Nat) (h : i < w.heap.size) : (w.alloc o).heap[i]? = w.heap[i]? := (MapKept.heap_alloc w o).2 i h
theorem blk_new (w : World) (o : Obj) : (w.alloc o).heap[w.heap.size]? = some o := (MapKept.heap_alloc w o).1

theorem modify_push (h : Array Obj) (x : Obj) (f : Obj → Obj) : (h.push x).modify h.size f = h.push (f x) := by
  apply Array.ext_getElem?
  intro i
  rw [Array.getElem?_modify, Array.getElem?_push, Array.getElem?_push]
  by_cases hi : i = h.size
  · subst hi; simp
  · rw [if_neg (fun e => hi e.symm), if_neg hi, if_neg hi]

theorem setRow_alloc (w : World) (c cs : Array Value) (t : TypeId) : (w.alloc (.cells c t)).setRow w.heap.size cs = w.alloc (.cells cs t) := by
  unfold World.setRow World.alloc
  congr 1
  exact modify_push w.heap (.cells c t) _

/-- A store of a whole struct or array into a variable that has just been laid. -/
theorem wpList_store_new {P : Program} {W : World} {ops : Array Oper} {rest : List Oper} {o : Oper} {a : Act} {Q : Exit → Act → World → Prop} (hg : o.guard = none)
    (ty : TypeId) (p x : Operand) (ho : o.op = .store ty p x) (c cs : Array Value) (t : TypeId)
    (hp : a.eval p = .pointer (some ⟨W.heap.size, 0, none⟩)) (hx : a.eval x = .agg cs) (hi : (P.info? ty).map (·.size) = some cs.size) (hc : c.size = cs.size) (h1 : ∀ v ∈ cs.toList, v.oneCell' = true)
    (h : wpList P ops Q rest (a.put o.dst undef) (W.alloc (.cells cs t))) : wpList P ops Q (o :: rest) a (W.alloc (.cells c t)) := by
  refine wpList_plain hg fun K hK => ?_
  have hb := heap_alloc_new W (.cells c t)
  have hst := run_storeCells_at P W.heap.size 0 t cs.toList 0 c (W.alloc (.cells c t)) hb (by simp [hc]) h1
  unfold Oper.wp execOp
  cases hq : P.info? ty with
  | none => simp [hq] at hi
  | some i =>
    have hs : i.size = cs.size := by simpa [hq] using hi
    have hrow : (cs.toList ++ List.drop cs.size c.toList).toArray = cs := by
      rw [List.drop_of_length_le (by simp [hc])]; simp
    simp [ho, hp, hx, Instr.storeAt, Instr.sureAddr, storeVar, Go.sizeOf, typeInfo, hq, hs, Value.cells, hst, hrow, setRow_alloc]
    exact hK _ _ h

/-- An element of an array of plain values. -/
theorem run_index_arr {P : Program} (T E len : Nat) (d : TypeDesc) (hT : P.underlying T = some (.array len E)) (hE : P.underlying E = some d) (hd : (match d with | .struct _ | .array _ _ => true | _ => false) = false) (hi : (P.info? E).map (·.size) = some 1)
    (cs : Array Value) (i : Int) (v : Value) (h0 : 0 ≤ i) (h1 : i < (len : Int)) (hv : cs[i.toNat]? = some v) (w : World) : (Instr.index T (.agg cs) (.int .i64 i)).run P w = .ok v w := by
  have hagg : (isAgg E).run P w = .ok false w := by
    unfold isAgg
    rw [Sem.run_bind, run_underlying hE w]
    cases d <;> simp_all
  cases hq : P.info? E with
  | none => simp [hq] at hi
  | some j =>
    have hs : j.size = 1 := by simpa [hq] using hi
    simp [Instr.index, asIntOf, run_underlying hT, h0, h1, Go.sizeOf, typeInfo, hq, hs, part, hagg, hv]

/-! ### Maps by strings -/
theorem findNow_str (k : ByteArray) : ∀ (es : List MapEntry) (i : Nat), (∀ e ∈ es, ∃ s, e.key = .string s) →
    Instr.findNow .string (.string k) es i = some ((es.findIdx? (fun e => match e.key with | .string s => k == s | _ => false)).bind fun j => (es[j]?).map fun e => (i + j, e.val)) := by
  intro es
  induction es with
  | nil => intro i _; rfl
  | cons e es ih =>
    intro i h
    obtain ⟨s, hs⟩ := h e (by simp)
    unfold Instr.findNow
    by_cases hk : (k == s) = true
    · simp [hs, Instr.sameNow, hk, List.findIdx?_cons]
    · have hk' : (k == s) = false := by simpa using hk
      simp only [hs, Instr.sameNow, hk', List.findIdx?_cons, Bool.false_eq_true, if_false]
      rw [ih (i + 1) (fun x hx => h x (by simp [hx]))]
      congr 1
      cases es.findIdx? _ with
      | none => rfl
      | some j =>
        simp only [Option.map_some, Option.bind_some, List.getElem?_cons_succ]
        congr 1
        funext x
        simp only [Prod.mk.injEq, and_true]
        omega

/-- A row of the literal. -/
abbrev Row := ByteArray × Value

def entriesFrom : List Row → Nat → List MapEntry
  | [], _ => []
  | r :: rs, i => { key := .string r.1, val := r.2, born := i } :: entriesFrom rs (i + 1)

theorem entries_str (rs : List Row) : ∀ i, ∀ e ∈ entriesFrom rs i, ∃ s, e.key = .string s := by
  induction rs with
  | nil => intro i e he; cases he
  | cons r rs ih =>
    intro i e he
    unfold entriesFrom at he
    cases he with
    | head => exact ⟨_, rfl⟩
    | tail _ he => exact ih _ e he

theorem entries_snoc (rs : List Row) (r : Row) : ∀ i, entriesFrom (rs ++ [r]) i = entriesFrom rs i ++ [{ key := .string r.1, val := r.2, born := i + rs.length }] := by
  induction rs with
  | nil => intro i; rfl
  | cons x rs ih =>
    intro i
    have e : i + 1 + rs.length = i + (rs.length + 1) := by omega
    simp only [List.cons_append, entriesFrom, ih, List.length_cons, e]

theorem find_row (k : ByteArray) (rs : List Row) (i : Nat) : ∃ q, Instr.findNow .string (.string k) (entriesFrom rs i) 0 = some q ∧ q.map (·.2) = (rs.find? (fun r => k == r.1)).map (·.2) := by
  refine ⟨_, findNow_str k _ 0 (entries_str rs i), ?_⟩
  induction rs generalizing i with
  | nil => rfl
  | cons r rs ih =>
    simp only [entriesFrom, List.findIdx?_cons, List.find?_cons]
    by_cases h : (k == r.1) = true
    · simp [h]
    · have h' : (k == r.1) = false := by simpa using h
      simp only [h', Bool.false_eq_true, if_false]
      rw [← ih (i + 1)]
      cases (entriesFrom rs (i + 1)).findIdx? _ with
      | none => rfl
      | some j => simp; cases (entriesFrom rs (i + 1))[j]? <;> rfl

/-- A store into a map of rows, at a key that it has not. -/
theorem run_insert {P : Program} {w : World} (T K E : TypeId) (ht : P.underlying T = some (.map K E)) (hk : P.underlying K = some .string) (g : Nat) (rs : List Row) (hb : w.heap[g]? = some (.map (entriesFrom rs 0).toArray rs.length))
    (k : ByteArray) (v : Value) (hn : rs.find? (fun r => k == r.1) = none) :
    (Instr.mapUpdate T (.map (some g)) (.string k) v).run P w = .ok () { w with heap := w.heap.setIfInBounds g (.map (entriesFrom (rs ++ [(k, v)]) 0).toArray (rs ++ [(k, v)]).length) } := by
  obtain ⟨q, h1, h2⟩ := find_row k rs 0
  have hq : q = none := by rw [hn] at h2; cases q <;> simp_all
  subst hq
  have he : (entriesFrom rs 0).toArray.push { key := .string k, val := v, born := rs.length } = (entriesFrom (rs ++ [(k, v)]) 0).toArray := by
    rw [entries_snoc]; simp
  have hc : (Instr.checkKey false 10000 K (.string k)).run P w = .ok () w := MapKept.run_checkKey (P := P) (w := w) (kt := K) (d := .string) (k := .string k) hk (by simp [MapKept.IsKey]) false 9999
  have hf := MapKept.run_findKey (P := P) (w := w) (kt := K) (d := .string) (k := .string k) hk h1
  simp [Instr.mapUpdate, run_underlying ht, MapKept.run_getObj_map hb, hc, hf, MapKept.run_setObj_map _ hb, Result.andThen, he]

/-- A look-up by a string in a map of rows. -/
theorem run_lookup_row {P : Program} {w : World} (T K E : TypeId) (ht : P.underlying T = some (.map K E)) (hk : P.underlying K = some .string) (z : Value) (hz : (zeroValue E).run P w = .ok z w) (g : Nat) (rs : List Row) (c : Nat) (hb : w.heap[g]? = some (.map (entriesFrom rs 0).toArray c)) (k : ByteArray) :
    (Instr.lookup T (.map (some g)) (.string k) true).run P w = .ok (.tuple #[((rs.find? (fun r => k == r.1)).map (·.2)).getD z, .bool (rs.find? (fun r => k == r.1)).isSome]) w := by
  obtain ⟨q, h1, h2⟩ := find_row k rs 0
  have hc : (Instr.checkKey (entriesFrom rs 0).isEmpty 10000 K (.string k)).run P w = .ok () w := MapKept.run_checkKey (P := P) (w := w) (kt := K) (d := .string) (k := .string k) hk (by simp [MapKept.IsKey]) _ 9999
  have hf := MapKept.run_findKey (P := P) (w := w) (kt := K) (d := .string) (k := .string k) hk h1
  rw [← h2]
  have h3 : (rs.find? (fun r => k == r.1)).isSome = q.isSome := by
    have := congrArg Option.isSome h2
    simpa using this.symm
  rw [h3]
  cases q with
  | none => simp [Instr.lookup, run_underlying ht, MapKept.run_getObj_map hb, hc, hf, hz, Result.andThen]
  | some q => simp [Instr.lookup, run_underlying ht, MapKept.run_getObj_map hb, hc, hf, Result.andThen]

/-! ### A map literal: its rows are read off the operations -/
def litRows (T E : TypeId) (m : Tmp) : List Oper → Tmp → List (ByteArray × ByteArray × Bool) × List Oper
  | o1 :: o2 :: rest, d =>
    match o1.op, o2.op with
    | .build E' ps, .insert T' (.tmp m') (.const (.string k)) (.tmp d') =>
      match ps.toList with
      | [(0, .const (.string v)), (1, .const (.bool b))] =>
        if E' = E ∧ T' = T ∧ m' = m ∧ d' = d ∧ o1.dst = some d ∧ o2.dst = none ∧ o1.guard.isNone ∧ o2.guard.isNone ∧ m < d then
          let r := litRows T E m rest (d + 1)
          ((k, v, b) :: r.1, r.2)
        else ([], o1 :: o2 :: rest)
      | _ => ([], o1 :: o2 :: rest)
    | _, _ => ([], o1 :: o2 :: rest)
  | l, _ => ([], l)

def rowOf (r : ByteArray × ByteArray × Bool) : Row := (r.1, .agg #[.string r.2.1, .bool r.2.2])

theorem getD_set_ne (t : Array Value) (i j : Nat) (v : Value) (h : i ≠ j) : (t.setIfInBounds i v).getD j undef = t.getD j undef := by
  simp [Array.getD_eq_getD_getElem?, h]

theorem getD_set_eq (t : Array Value) (i : Nat) (v : Value) (h : i < t.size) : (t.setIfInBounds i v).getD i undef = v := by
  simp [Array.getD_eq_getD_getElem?, h]

theorem wpList_lit {P : Program} {ops : Array Oper} {Q : Exit → Act → World → Prop} (T K E : TypeId) (m : Tmp) (ht : P.underlying T = some (.map K E)) (hk : P.underlying K = some .string)
    (hbuild : ∀ (v : ByteArray) (b : Bool) (w : World), (Instr.build E #[(0, .string v), (1, .bool b)]).run P w = .ok (.agg #[.string v, .bool b]) w) (W : World) :
    ∀ (n : Nat) (l : List Oper) (d : Tmp) (done : List Row) (a : Act), l.length ≤ n → a.tmps.getD m undef = .map (some W.heap.size) → d + (litRows T E m l d).1.length ≤ a.tmps.size →
      (done ++ (litRows T E m l d).1.map rowOf).Pairwise (fun x y => (y.1 == x.1) = false) →
      (∀ a' : Act, a'.tmps.getD m undef = .map (some W.heap.size) → a'.tmps.size = a.tmps.size → a'.defers = a.defers →
        wpList P ops Q (litRows T E m l d).2 a' (W.alloc (.map (entriesFrom (done ++ (litRows T E m l d).1.map rowOf) 0).toArray (done ++ (litRows T E m l d).1.map rowOf).length))) →
      wpList P ops Q l a (W.alloc (.map (entriesFrom done 0).toArray done.length)) := by
  intro n
  induction n with
  | zero =>
    intro l d done a hl hm _ _ h
    have : l = [] := List.eq_nil_of_length_eq_zero (by omega)
    subst this
    simpa [litRows] using h a hm rfl rfl
  | succ n ih =>
    intro l d done a hl hm hsz hpw h
    have stop : litRows T E m l d = ([], l) → wpList P ops Q l a (W.alloc (.map (entriesFrom done 0).toArray done.length)) := by
      intro e
      rw [e] at h
      simpa using h a hm rfl rfl
    rcases l with _ | ⟨o1, _ | ⟨o2, rest⟩⟩
    · exact stop (by simp [litRows])
    · exact stop (by simp [litRows])
    · unfold litRows at stop hsz hpw h
      split at stop <;> rename_i hop1 hop2
      · split at stop <;> rename_i hps
        · split at stop <;> rename_i hc
          · rename_i E' ps T' m' k d' _ v b
            simp only [hop1, hop2, hps] at hsz hpw h
            rw [if_pos hc] at hsz hpw h
            obtain ⟨rfl, rfl, rfl, rfl, hd1, hd2, hg1, hg2, hmd⟩ := hc
            simp only [List.length_cons, List.map_cons] at hsz hpw h hl
            have hps' : ps = #[(0, .const (.string v)), (1, .const (.bool b))] := by
              apply Array.toList_inj.1; simp [hps]
            refine wpList_plain (by simpa using hg1) fun K1 hK1 => ?_
            unfold Oper.wp execOp
            have e1 : (ps.map fun x => (x.1, a.eval x.2)) = #[(0, .string v), (1, .bool b)] := by rw [hps']; simp [Act.eval]
            simp only [hop1]
            have hb1 := hbuild v b (W.alloc (.map (entriesFrom done 0).toArray done.length))
            have e2 : (ps.map fun (i, x) => (i, a.eval x)) = #[(0, .string v), (1, .bool b)] := e1
            rw [e2]
            simp only [Sem.run_bind, hb1, Result.andThen_ok, Sem.run_pure, Oper.upon, hd1]
            refine hK1 _ _ ?_
            refine wpList_plain (by simpa using hg2) fun K2 hK2 => ?_
            unfold Oper.wp execOp
            have hds : d' < a.tmps.size := Nat.lt_of_lt_of_le (Nat.lt_add_of_pos_right (Nat.succ_pos _)) hsz
            have em : ({ a with tmps := a.tmps.setIfInBounds d' (.agg #[.string v, .bool b]) } : Act).eval (.tmp m') = .map (some W.heap.size) := by
              show (a.tmps.setIfInBounds d' _).getD m' undef = _
              rw [getD_set_ne _ _ _ _ (Nat.ne_of_gt hmd), hm]
            have ed : ({ a with tmps := a.tmps.setIfInBounds d' (.agg #[.string v, .bool b]) } : Act).eval (.tmp d') = .agg #[.string v, .bool b] := by
              show (a.tmps.setIfInBounds d' _).getD d' undef = _
              rw [getD_set_eq _ _ _ hds]
            have ek : ({ a with tmps := a.tmps.setIfInBounds d' (.agg #[.string v, .bool b]) } : Act).eval (.const (.string k)) = .string k := rfl
            have hnew : done.find? (fun r => k == r.1) = none := by
              rw [List.find?_eq_none]
              intro r hr
              have := (List.pairwise_append.1 hpw).2.2 r hr (rowOf (k, v, b)) (by simp)
              simp [rowOf] at this ⊢
              exact this
            have hins := run_insert (P := P) (w := W.alloc (.map (entriesFrom done 0).toArray done.length)) T' K E' ht hk W.heap.size done (heap_alloc_new W _) k (.agg #[.string v, .bool b]) hnew
            have hset : ({ W.alloc (.map (entriesFrom done 0).toArray done.length) with heap := (W.alloc (.map (entriesFrom done 0).toArray done.length)).heap.setIfInBounds W.heap.size (.map (entriesFrom (done ++ [(k, .agg #[.string v, .bool b])]) 0).toArray (done ++ [(k, Value.agg #[.string v, .bool b])]).length) } : World) = W.alloc (.map (entriesFrom (done ++ [(k, .agg #[.string v, .bool b])]) 0).toArray (done ++ [(k, Value.agg #[.string v, .bool b])]).length) := by
              have : ∀ (h : Array Obj) (x y : Obj), (h.push x).setIfInBounds h.size y = h.push y := by
                intro h x y; apply Array.ext'; simp
              show ({ W.alloc _ with heap := (W.heap.push _).setIfInBounds W.heap.size _ } : World) = _
              rw [this]; rfl
            rw [hset] at hins
            simp only [Act.put, hop2, em, ed, ek, Sem.run_bind, hins, Result.andThen_ok, Sem.run_pure, Oper.upon, hd2]
            refine hK2 _ _ ?_
            refine ih rest (d' + 1) (done ++ [rowOf (k, v, b)]) _ (by omega) em (by simp only [Array.size_setIfInBounds]; exact Nat.le_trans (Nat.le_of_eq (by rw [Nat.add_assoc, Nat.add_comm 1])) hsz) (by simpa using hpw) ?_
            intro a' h1 h2 h3
            have := h a' h1 (by rw [h2]; simp) h3
            simpa using this
          · exact stop rfl
        · exact stop rfl
      · exact stop rfl

/-! ### Code without branches, run by the kernel -/
def runOps (P : Program) (ops : Array Oper) : List Nat → Act → World → Option (Act × World)
  | [], a, w => some (a, w)
  | i :: rest, a, w =>
    match ops[i]? with
    | none => runOps P ops rest a w
    | some o =>
      if Region.wanted o (yielded ops a.tmps) then
        match (execOp a.eval o).run P w with
        | .ok (.value v) w' => runOps P ops rest (a.put o.dst v) w'
        | .ok .skip w' => runOps P ops rest (a.put o.dst undef) w'
        | _ => none
      else runOps P ops rest (a.put o.dst undef) w

theorem wpOps_of_run {P : Program} {ops : Array Oper} {Q : Exit → Act → World → Prop} : ∀ (l : List Nat) (a : Act) (w : World) (a' : Act) (w' : World),
    runOps P ops l a w = some (a', w') → Q .normal a' w' → wpOps P ops Q l a w := by
  intro l
  induction l with
  | nil => intro a w a' w' h hq; simp only [runOps, Option.some.injEq, Prod.mk.injEq] at h; obtain ⟨rfl, rfl⟩ := h; exact hq
  | cons i rest ih =>
    intro a w a' w' h hq
    unfold runOps at h
    unfold wpOps
    cases ho : ops[i]? with
    | none => rw [ho] at h; exact ih _ _ _ _ h hq
    | some o =>
      rw [ho] at h
      simp only at h ⊢
      split at h
      · rename_i hw
        rw [if_pos hw]
        refine .inl ?_
        unfold Oper.wp
        split at h
        · rename_i v w1 hr
          rw [hr]; exact ih _ _ _ _ h hq
        · rename_i w1 hr
          rw [hr]; exact ih _ _ _ _ h hq
        · cases h
      · rename_i hw
        rw [if_neg hw]
        exact ih _ _ _ _ h hq

def runC (P : Program) : Code → Act → World → Option (Bool × Act × World)
  | .skip, a, w => some (false, a, w)
  | .ret, a, w => some (true, a, w)
  | .seq x y, a, w =>
    match runC P x a w with
    | some (false, a', w') => runC P y a' w'
    | r => r
  | .region _ ops false, a, w => (runOps P ops (List.range ops.size) a w).map fun x => (false, x.1, x.2)
  | _, _, _ => none

theorem wp_of_runC {P : Program} {Q : Exit → Act → World → Prop} : ∀ (c : Code) (a : Act) (w : World) (b : Bool) (a' : Act) (w' : World),
    runC P c a w = some (b, a', w') → Q (if b then .ret else .normal) a' w' → c.wp P Q a w := by
  intro c
  induction c generalizing Q with
  | skip => intro a w b a' w' h hq; simp only [runC, Option.some.injEq, Prod.mk.injEq] at h; obtain ⟨rfl, rfl, rfl⟩ := h; exact wp_skip hq
  | ret => intro a w b a' w' h hq; simp only [runC, Option.some.injEq, Prod.mk.injEq] at h; obtain ⟨rfl, rfl, rfl⟩ := h; exact wp_ret hq
  | seq x y ihx ihy =>
    intro a w b a' w' h hq
    unfold runC at h
    refine wp_seq ?_
    split at h
    · rename_i a1 w1 hx
      exact ihx _ _ _ _ _ hx (ihy _ _ _ _ _ h hq)
    · rename_i hx
      refine ihx _ _ _ _ _ h ?_
      cases b with
      | true => exact hq
      | false => exact (hx _ _ h).elim
  | region id ops draw =>
    intro a w b a' w' h hq
    cases draw with
    | true => simp [runC] at h
    | false =>
      simp only [runC, Option.map_eq_some_iff, Prod.mk.injEq] at h
      obtain ⟨⟨a1, w1⟩, h1, rfl, rfl, rfl⟩ := h
      exact wp_region (wpOps_of_run _ _ _ _ _ h1 hq)
  | _ => intro a w b a' w' h; simp [runC] at h

/-- A function of such code, with one result in a slot. -/
theorem calls_of_runC {P : Program} {f : FuncId} {fn : Func} {args : Array Value} {w w' : World} {t : Tmp} {v : Value} (hf : P.funcs[f]? = some fn) (hb : fn.body.isSome = true) (hres : fn.results = #[.tmp t])
    (h : (runC P (fn.body.getD .skip) { tmps := args ++ Array.replicate (fn.ntmps - args.size) undef, defers := [] } w).map (fun x => (x.2.1.tmps.getD t undef, x.2.1.defers.isEmpty, x.2.2)) = some (v, true, w')) :
    Calls P f args w fun e w'' => e = .returned v ∧ w'' = w' := by
  obtain ⟨c, hc⟩ := Option.isSome_iff_exists.1 hb
  rw [hc] at h
  simp only [Option.getD_some, Option.map_eq_some_iff, Prod.mk.injEq] at h
  obtain ⟨⟨b, a1, w1⟩, h1, h2, h3, h4⟩ := h
  refine calls_of_wp hf hc (wp_of_runC c _ _ b a1 w1 h1 ?_)
  have hr := results_tmp hres a1.tmps P w1
  simp only at h2 h3 h4
  rw [h2] at hr
  cases b
  · exact ⟨by simpa using h3, v, hr, rfl, h4⟩
  · exact ⟨by simpa using h3, v, hr, rfl, h4⟩

theorem wpList_moved {P : Program} {ops : Array Oper} {Q : Exit → Act → World → Prop} {o : Oper} {rest : List Oper} {a : Act} {w : World} (x : Operand) (ho : o.op = .move x ∨ o.op = .assign x) (hg : o.guard.isNone = true)
    (h : wpList P ops Q rest (a.put o.dst (a.eval x)) w) : wpList P ops Q (o :: rest) a w := by
  refine wpList_plain (by simpa using hg) fun K hK => ?_
  unfold Oper.wp execOp
  rcases ho with ho | ho <;> simp only [ho, Sem.run_pure, Oper.upon] <;> exact hK _ _ h

theorem wpList_mono {P : Program} {ops : Array Oper} {Q Q' : Exit → Act → World → Prop} (hq : ∀ e a w, Q e a w → Q' e a w) : ∀ (l : List Oper) (a : Act) (w : World), wpList P ops Q l a w → wpList P ops Q' l a w := by
  intro l
  induction l with
  | nil => intro a w h; exact hq _ _ _ h
  | cons o l ih =>
    intro a w h
    unfold wpList at h ⊢
    split
    · rename_i hw
      rw [if_pos hw] at h
      rcases h with h | ⟨h, a0, w0, hl⟩
      · refine .inl ?_
        unfold Oper.wp at h ⊢
        unfold Oper.upon at h ⊢
        split at h
        · exact ih _ _ h
        · exact ih _ _ h
        · exact ih _ _ h
        · refine h.mono fun e w' he => ?_
          cases e with
          | returned v => exact ih _ _ he
          | panicked ch => exact hq _ _ _ he
          | outgrown => obtain ⟨a0, w0, h0⟩ := he; exact ⟨a0, w0, hq _ _ _ h0⟩
        · exact h.mono fun v w' hv => ih _ _ hv
        · exact hq _ _ _ h
        · exact h.elim
      · exact .inr ⟨h, a0, w0, hq _ _ _ hl⟩
    · rename_i hw
      rw [if_neg hw] at h
      exact ih _ _ h

/-! ### A body that is some straight code and one region of straight operations -/
def isLit : Option Code → Bool
  | some (.seq _ (.seq (.region _ _ false) .ret)) => true
  | _ => false
def headOf : Option Code → Code
  | some (.seq c _) => c
  | _ => .skip
def opsOf : Option Code → List Oper
  | some (.seq _ (.seq (.region _ ops _) _)) => ops.toList
  | _ => []

theorem calls_lit {P : Program} {f : FuncId} {fn : Func} {args : Array Value} {w : World} {R : Ending → World → Prop} {a0 : Act} (hf : P.funcs[f]? = some fn) (hform : isLit fn.body = true)
    (h0 : runC P (headOf fn.body) { tmps := args ++ Array.replicate (fn.ntmps - args.size) undef, defers := [] } w = some (false, a0, w))
    (h : wpList P (opsOf fn.body).toArray (fun e a w' => e = .normal ∧ a.defers = [] ∧ ∃ v, (results fn a.tmps).run P w' = .ok v w' ∧ R (.returned v) w') (opsOf fn.body) a0 w) :
    Calls P f args w R := by
  cases hb : fn.body with
  | none => simp [hb, isLit] at hform
  | some c =>
    rw [hb] at hform h h0
    unfold isLit at hform
    split at hform
    · rename_i c0 id ops heq
      cases heq
      refine calls_of_wp hf hb (wp_seq (wp_of_runC _ _ _ _ _ _ h0 ?_))
      refine wp_seq (wp_region_list (wpList_mono ?_ _ _ _ h))
      rintro e a w' ⟨rfl, hd, v, hr, hR⟩
      exact wp_ret ⟨hd, v, hr, hR⟩
    · cases hform

theorem wpList_makeMap {P : Program} {ops : Array Oper} {Q : Exit → Act → World → Prop} {o : Oper} {rest : List Oper} {a : Act} {w : World} (T : TypeId) (ho : o.op = .makeMap T none) (hg : o.guard.isNone = true)
    (h : wpList P ops Q rest (a.put o.dst (.map (some w.heap.size))) (w.alloc (.map #[] 0))) : wpList P ops Q (o :: rest) a w := by
  refine wpList_plain (by simpa using hg) fun K hK => ?_
  unfold Oper.wp execOp
  have := @run_makeMap P
  simp only [ho, Option.map_none, Sem.run_bind, this, Result.andThen_ok, Sem.run_pure, Oper.upon]
  exact hK _ _ h
end Tym
