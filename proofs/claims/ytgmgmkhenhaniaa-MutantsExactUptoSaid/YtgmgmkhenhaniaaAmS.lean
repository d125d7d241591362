/-
  Regions read operation by operation: forms that are easily walked.
-/
import Derived.Test.YtgmgmkhenhaniaaAmR
set_option linter.unusedSimpArgs false
set_option linter.unusedVariables false
namespace Go.AM
variable {P : Program} {h h' : Heap} {ρ : Place} {w : World}

/-! The forms are structures, so that the kernel compares them by their parts. -/
/-- What an outcome gives to what follows. -/
structure okK (r : Option (Value × Heap)) (K : Value → Heap → Prop) : Prop where
  out : match r with | some (v, h') => K v h' | none => False
/-- The same of what leaves the memory as it is. -/
structure vK (o : Option Value) (h : Heap) (K : Value → Heap → Prop) : Prop where
  out : match o with | some v => K v h | none => False
/-- A move, and what follows. -/
structure mvK (v : Value) (h : Heap) (K : Value → Heap → Prop) : Prop where
  out : K v h
/-- A call and what follows. -/
structure callK (P : Program) (fa : Option (FuncId × List Value)) (h : Heap) (K : Value → Heap → Prop) : Prop where
  out : match fa with | some (f, args) => ∃ v h', Runs P f args h v h' ∧ K v h' | none => False
/-- The same, its outcome told. -/
structure callKD (P : Program) (fa : Option (FuncId × List Value)) (h : Heap) (K : Value → Heap → Prop) : Prop where
  out : match fa with | some (f, args) => ∃ v h', Runs P f args h v h' ∧ K v h' | none => False
structure cnd (v : Value) (A B : Prop) : Prop where
  out : match v with | .bool true => A | .bool false => B | _ => False
def yldV (v : Value) : Option Bool := match v with | .bool b => some b | _ => none
structure gd (v : Value) (z : Bool) (A B : Prop) : Prop where
  out : if yldV v = some z then A else B
/-- A guarded step: what follows is told once. -/
structure gdK (c : Value) (z : Bool) (A : (Value → Heap → Prop) → Prop) (k : Value → Heap → Prop) (h : Heap) : Prop where
  out : if yldV c = some z then A k else k undef h
/-- What follows code that ends in several places: told once. -/
structure seqK (A : (List Value → Heap → Prop) → Prop) (k : List Value → Heap → Prop) : Prop where
  out : A k

def pickV (c a b : Value) : Option Value := match c with | .bool z => some (if z then a else b) | _ => none
def nilV (v : Value) : Option Value := match v with | .pointer (some a) => some (.pointer (some a)) | .func (.func f) a b => some (.func (.func f) a b) | _ => none
def fnOf (v : Value) (args : List Value) : Option (FuncId × List Value) := match v with | .func (.func f) first cap => some (f, first.toList ++ args ++ cap.toList) | _ => none
def bK (P : Program) (t : Tmps) (c : Call) (h : Heap) (K : Value → Heap → Prop) : Prop :=
  match c.callee, c.args.toList, c.argTypes.toList with
  | .builtin .len, [x], [ty] => vK (aLen P ty (ev t x)) h K
  | .builtin .append, [x, y], [ty, uy] => okK (aAppend P ty uy (ev t x) (ev t y) h) K
  | .builtin .copy, [x, y], [ty, uy] => okK (aCopy P ty uy (ev t x) (ev t y) h) K
  | .builtin .max, [x, y], [_, _] => vK (aMax (ev t x) (ev t y)) h K
  | .builtin .max, [x, y, z], [_, _, _] => vK (aMax3 (ev t x) (ev t y) (ev t z)) h K
  | .builtin .min, [x, y], [_, _] => vK (aMin (ev t x) (ev t y)) h K
  | _, _, _ => False
def opS (P : Program) (t : Tmps) (op : Op) (h : Heap) (K : Value → Heap → Prop) : Prop :=
  match op with
  | .move x => mvK (ev t x) h K
  | .assign x => mvK (ev t x) h K
  | .pick c a b => vK (pickV (ev t c) (ev t a) (ev t b)) h K
  | .alloc e => okK (aAlloc P e h) K
  | .box e x => okK (some (aBox P e (ev t x) h)) K
  | .build ty ps => vK (aBuild P ty (evParts t ps)) h K
  | .buildSlice ty n ps => okK (aBuildSlice P ty n (evParts t ps) h) K
  | .load ty a => vK (aLoad P ty (ev t a) h) h K
  | .store ty a x => okK ((aStore P ty (ev t a) (ev t x) h).map (undef, ·)) K
  | .nilCheck x => vK (nilV (ev t x)) h K
  | .binOp op xt x y _ => vK (aBin P op xt (ev t x) (ev t y)) h K
  | .unOp op _ x => vK (aUn op (ev t x)) h K
  | .convert s d x => vK (aConvert P s d (ev t x)) h K
  | .makeFunc (.func f) first cap => mvK (.func (.func f) (first.toList.map (ev t)).toArray (cap.toList.map (ev t)).toArray) h K
  | .makeSlice ty l c => okK (aMakeSlice P ty (ev t l) (ev t c) h) K
  | .slice ty x lo hi mx => vK (aSlice P ty (ev t x) (lo.map (ev t)) (hi.map (ev t)) (mx.map (ev t)) h) h K
  | .fieldAddr ty x k => vK (aFieldAddr P ty (ev t x) k) h K
  | .field ty x k => vK (aField P ty (ev t x) k) h K
  | .indexAddr ty x i => vK (aIndexAddr P ty (ev t x) (ev t i)) h K
  | .index ty x i => vK (aIndex P ty (ev t x) (ev t i)) h K
  | .extract x k => vK (aExtract (ev t x) k) h K
  | .makeMap _ none => okK (some (.map (some h.length), newMap h)) K
  | .lookup ty x k ok => vK (aLookup P ty (ev t x) (ev t k) ok h) h K
  | .mapUpdate ty m k x | .insert ty m k x => okK ((aMapUpd P ty (ev t m) (ev t k) (ev t x) h).map (undef, ·)) K
  | .call c => bK P t c h K
  | _ => False
/-- A map's length, in the text's order. -/
def isLenM (P : Program) (c : Call) : Bool :=
  match c.callee, c.argTypes.toList with
  | .builtin .len, [ty] => (match P.underlying ty with | some (.map _ _) => true | _ => false)
  | _, _ => false
def lenMK (P : Program) (t : Tmps) (c : Call) (h : Heap) (K : Value → Heap → Prop) : Prop :=
  match c.args.toList, c.argTypes.toList with
  | [x], [ty] => vK (aLenM P ty (ev t x) h) h K
  | _, _ => False
def bKL (P : Program) (t : Tmps) (c : Call) (h : Heap) (K : Value → Heap → Prop) : Prop := bif isLenM P c then lenMK P t c h K else bK P t c h K
def isFn (c : Call) : Bool := match c.callee with | .value _ => true | _ => false
def stepK (P : Program) (t : Tmps) (op : Op) (h : Heap) (K : Value → Heap → Prop) : Prop :=
  match op with
  | .call c => bif isFn c then callK P (callOf t c) h K else bKL P t c h K
  | op => opS P t op h K
def stepKD (P : Program) (t : Tmps) (op : Op) (h : Heap) (K : Value → Heap → Prop) : Prop :=
  match op with
  | .call c => bif isFn c then callKD P (callOf t c) h K else bK P t c h K
  | op => opS P t op h K

theorem okK_ex {r : Option (Value × Heap)} {K : Value → Heap → Prop} (hk : okK r K) : ∃ v h', r = some (v, h') ∧ K v h' := by
  have := hk.out
  cases r with
  | none => exact this.elim
  | some x => exact ⟨x.1, x.2, rfl, this⟩
theorem vK_ex {o : Option Value} {K : Value → Heap → Prop} (hk : vK o h K) : ∃ v h', o.map (·, h) = some (v, h') ∧ K v h' := by
  have := hk.out
  cases o with
  | none => exact this.elim
  | some x => exact ⟨x, h, rfl, this⟩
theorem bK_ex {t : Tmps} {c : Call} {K : Value → Heap → Prop} (hk : bK P t c h K) : ∃ v h', callVal P t c h = some (v, h') ∧ K v h' := by
  unfold bK at hk
  split at hk
  · rename_i hc ha hb
    obtain ⟨v, h', e, k⟩ := vK_ex hk
    exact ⟨v, h', by simp only [callVal, hc, ha, hb, bVal]; exact e, k⟩
  · rename_i hc ha hb
    obtain ⟨v, h', e, k⟩ := okK_ex hk
    exact ⟨v, h', by simp only [callVal, hc, ha, hb, bVal]; exact e, k⟩
  · rename_i hc ha hb
    obtain ⟨v, h', e, k⟩ := okK_ex hk
    exact ⟨v, h', by simp only [callVal, hc, ha, hb, bVal]; exact e, k⟩
  · rename_i hc ha hb
    obtain ⟨v, h', e, k⟩ := vK_ex hk
    exact ⟨v, h', by simp only [callVal, hc, ha, hb, bVal]; exact e, k⟩
  · rename_i hc ha hb
    obtain ⟨v, h', e, k⟩ := vK_ex hk
    exact ⟨v, h', by simp only [callVal, hc, ha, hb, bVal]; exact e, k⟩
  · rename_i hc ha hb
    obtain ⟨v, h', e, k⟩ := vK_ex hk
    exact ⟨v, h', by simp only [callVal, hc, ha, hb, bVal]; exact e, k⟩
  · exact hk.elim
theorem bKL_ex {t : Tmps} {c : Call} {K : Value → Heap → Prop} (hk : bKL P t c h K) : ∃ b v h', c.callee = .builtin b ∧ bValL P t b c.args.toList c.argTypes.toList h = some (v, h') ∧ K v h' := by
  unfold bKL at hk
  cases hm : isLenM P c with
  | false =>
    rw [hm] at hk
    obtain ⟨v, h', e, k⟩ := bK_ex hk
    unfold callVal at e
    split at e
    · rename_i b hb
      exact ⟨b, v, h', hb, by unfold bValL; rw [e], k⟩
    · cases e
  | true =>
    rw [hm] at hk
    unfold isLenM at hm
    split at hm
    rotate_left
    · cases hm
    rename_i ty hb hat
    unfold lenMK at hk
    rw [hat] at hk
    split at hk
    · rename_i x ty' ha hat'
      cases hat'
      split at hm
      rotate_left
      · cases hm
      rename_i kt et hu
      obtain ⟨v, h', e, k⟩ := vK_ex hk
      refine ⟨.len, v, h', hb, ?_, k⟩
      have h0 : bVal P t .len c.args.toList c.argTypes.toList h = none := by
        rw [ha, hat]
        simp only [bVal]
        have : aLen P ty (ev t x) = none := by simp [aLen, hu]
        rw [this]; rfl
      unfold bValL bLenM
      rw [h0, ha, hat]
      exact e
    · exact hk.elim
theorem bKL_of {t : Tmps} {c : Call} {K : Value → Heap → Prop} (hk : bK P t c h K) : bKL P t c h K := by
  unfold bKL
  cases hm : isLenM P c with
  | false => exact hk
  | true =>
    unfold isLenM at hm
    split at hm
    rotate_left
    · cases hm
    rename_i ty hb hat
    split at hm
    rotate_left
    · cases hm
    rename_i kt et hu
    obtain ⟨v, h', e, k⟩ := bK_ex hk
    simp only [callVal, hb, hat, bVal] at e
    split at e
    · rename_i x ty' ha hat'
      cases hat'
      have : aLen P ty (ev t x) = none := by simp [aLen, hu]
      rw [this] at e; cases e
    · cases e
theorem bKL_mk {t : Tmps} {c : Call} {b : Builtin} {v : Value} {K : Value → Heap → Prop} (hb : c.callee = .builtin b) (he : bLenM P t b c.args.toList c.argTypes.toList h = some v) (hk : K v h) : bKL P t c h K := by
  unfold bLenM at he
  split at he
  rotate_left
  · cases he
  rename_i x ty ha hat
  unfold aLenM at he
  split at he
  rotate_left
  · cases he
  rename_i kt et i hu hx
  unfold bKL isLenM lenMK
  rw [hb, hat, ha]
  simp only [hu, cond_true]
  refine ⟨?_⟩
  unfold aLenM
  rw [hu, hx]
  simp only
  rw [he]
  exact hk
theorem opS_ex {t : Tmps} {op : Op} {K : Value → Heap → Prop} (hk : opS P t op h K) : ∃ v h', opVal P t op h = some (v, h') ∧ K v h' := by
  unfold opS at hk
  split at hk <;> first
    | exact hk.elim
    | exact ⟨_, _, rfl, hk.out⟩
    | exact okK_ex hk
    | exact vK_ex hk
    | (obtain ⟨v, h', e, k⟩ := bK_ex hk; exact ⟨v, h', e, k⟩)

theorem opK_of {t : Tmps} {op : Op} {K : Value → Heap → Prop} (hk : stepK P t op h K) : opK P t op h K := by
  unfold stepK at hk
  unfold opK
  split
  · rename_i c
    simp only at hk
    cases hc : c.callee with
    | value x =>
      simp only [isFn, hc, cond_true] at hk
      have hk := hk.out
      split at hk
      · rename_i f args hfa
        obtain ⟨v, h', h1, h2⟩ := hk
        exact ⟨f, args, _, hfa, h1, fun _ _ ⟨e1, e2⟩ => e1 ▸ e2 ▸ h2⟩
      · exact hk.elim
    | builtin b =>
      simp only [isFn, hc, cond_false] at hk
      obtain ⟨b', v, h', h0, h1, h2⟩ := bKL_ex hk
      rw [hc] at h0
      cases h0
      exact ⟨v, h', h1, h2⟩
    | invoke r m =>
      simp only [isFn, hc, cond_false] at hk
      obtain ⟨b', v, h', h0, _⟩ := bKL_ex hk
      rw [hc] at h0
      cases h0
  · rename_i hno
    split at hk
    · rename_i c; exact absurd rfl (hno c)
    · exact opS_ex hk

theorem opKD_of {t : Tmps} {op : Op} {K : Value → Heap → Prop} (hk : stepKD P t op h K) : opKD P t op h K := by
  unfold stepKD at hk
  unfold opKD
  split
  · rename_i c
    simp only at hk
    cases hc : c.callee with
    | value x =>
      simp only [isFn, hc, cond_true] at hk
      have hk := hk.out
      split at hk
      · rename_i f args hfa
        obtain ⟨v, h', h1, h2⟩ := hk
        exact ⟨f, args, v, h', hfa, h1, h2⟩
      · exact hk.elim
    | builtin b =>
      simp only [isFn, hc, cond_false] at hk
      obtain ⟨v, h', h1, h2⟩ := bK_ex hk
      exact ⟨v, h', by simpa only [callVal, hc] using h1, h2⟩
    | invoke r m =>
      simp only [isFn, hc, cond_false] at hk
      obtain ⟨v, h', h1, _⟩ := bK_ex hk
      simp only [callVal, hc] at h1
      cases h1
  · rename_i hno
    split at hk
    · rename_i c; exact absurd rfl (hno c)
    · exact opS_ex hk

/-- The slot whose value decides. -/
def gdst (ops : Array Oper) (j : Nat) : Nat := (((ops[j]?).bind (·.dst)).getD 0)
def gok (ops : Array Oper) (j : Nat) : Bool := ((ops[j]?).bind (·.dst)).isSome

/-- A region in the text's order, by its list. -/
def wpS (P : Program) (ops : Array Oper) (K : Tmps → Heap → Prop) : List Oper → Tmps → Heap → Prop
  | [], t, h => K t h
  | o :: rest, t, h =>
    match o.guard with
    | none => stepK P t o.op h fun v h' => wpS P ops K rest (updO t o.dst v) h'
    | some (j, z) => gdK (t (gdst ops j)) z (fun k => stepK P t o.op h k) (fun v h' => wpS P ops K rest (updO t o.dst v) h') h

theorem opK_mono {t : Tmps} {op : Op} {K K' : Value → Heap → Prop} (hm : ∀ v h, K v h → K' v h) (hk : opK P t op h K) : opK P t op h K' := by
  unfold opK at *
  split at hk
  · split at hk
    · obtain ⟨f, args, R, h1, h2, h3⟩ := hk; exact ⟨f, args, R, h1, h2, fun v h' hr => hm _ _ (h3 v h' hr)⟩
    · obtain ⟨v, h', h1, h2⟩ := hk; exact ⟨v, h', h1, hm _ _ h2⟩
    · exact hk
  · obtain ⟨v, h', h1, h2⟩ := hk; exact ⟨v, h', h1, hm _ _ h2⟩
theorem opKD_mono {t : Tmps} {op : Op} {K K' : Value → Heap → Prop} (hm : ∀ v h, K v h → K' v h) (hk : opKD P t op h K) : opKD P t op h K' := by
  unfold opKD at *
  split at hk
  · split at hk
    · obtain ⟨f, args, v, h', h1, h2, h3⟩ := hk; exact ⟨f, args, v, h', h1, h2, hm _ _ h3⟩
    · obtain ⟨v, h', h1, h2⟩ := hk; exact ⟨v, h', h1, hm _ _ h2⟩
    · exact hk
  · obtain ⟨v, h', h1, h2⟩ := hk; exact ⟨v, h', h1, hm _ _ h2⟩

def guardsOK (ops : Array Oper) : Bool := ops.all fun o => match o.guard with | some (j, _) => gok ops j | none => true

theorem yielded_gdst {ops : Array Oper} {t : Tmps} {j : Nat} (hg : gok ops j = true) : yieldedA ops t j = yldV (t (gdst ops j)) := by
  unfold gok at hg
  unfold yieldedA gdst yldV
  cases hd : (ops[j]?).bind (·.dst) with
  | none => rw [hd] at hg; cases hg
  | some d => rfl

theorem wpS_sound {ops : Array Oper} {K : Tmps → Heap → Prop} (hg : guardsOK ops = true) : ∀ (k s : Nat) (t : Tmps) (h : Heap), s + k = ops.size → wpS P ops K (ops.toList.drop s) t h → wpL P ops K (List.range' s k) t h := by
  intro k
  induction k with
  | zero =>
    intro s t h hs hw
    rw [List.drop_of_length_le (by simp; omega)] at hw
    exact hw
  | succ k ih =>
    intro s t h hs hw
    have hlt : s < ops.size := by omega
    have ho : ops[s]? = some ops[s] := by simp
    rw [List.drop_eq_getElem_cons (by simpa using hlt)] at hw
    simp only [Array.getElem_toList] at hw
    have hgo := Array.all_eq_true.mp hg s hlt
    rw [List.range'_succ]
    simp only [wpL, ho]
    simp only [wpS] at hw
    cases hgd : ops[s].guard with
    | none =>
      rw [hgd] at hw
      exact opK_mono (fun v h' hk => ih (s + 1) _ _ (by omega) hk) (opK_of hw)
    | some jz =>
      obtain ⟨j, z⟩ := jz
      rw [hgd] at hw hgo
      simp only at hw hgo ⊢
      rw [yielded_gdst hgo]
      have hw := hw.out
      split
      · rename_i hz; rw [if_pos hz] at hw
        exact opK_mono (fun v h' hk => ih (s + 1) _ _ (by omega) hk) (opK_of hw)
      · rename_i hz; rw [if_neg hz] at hw
        exact ih (s + 1) _ _ (by omega) hw

/-- What pending reads must still find. -/
def pendK (P : Program) (A : Nat) (h' : Heap) : List Pend → Prop
  | [] => True
  | x :: l => match A.testBit x.i with | true => pendK P A h' l | false => opVal P x.t x.op h' = some (x.v, h') ∧ pendK P A h' l
theorem pendK_all {A : Nat} : ∀ (l : List Pend), pendK P A h' l → ∀ x ∈ l, A.testBit x.i = true ∨ opVal P x.t x.op h' = some (x.v, h')
  | [], _, x, hx => by cases hx
  | y :: l, hp, x, hx => by
    simp only [pendK] at hp
    split at hp
    · rename_i hc
      rcases List.mem_cons.mp hx with rfl | hx
      · exact .inl hc
      · exact pendK_all l hp x hx
    · rcases List.mem_cons.mp hx with rfl | hx
      · exact .inr hp.1
      · exact pendK_all l hp.2 x hx
/-- What an operation of such a region owes besides. -/
def sideK (P : Program) (ops : Array Oper) (i : Nat) (op : Op) (pend : List Pend) (h : Heap) (v : Value) (h' : Heap) (rest : Prop) : Prop :=
  match kindOf op with
  | .act => if isCall op then (∃ new, h' = h ++ new) ∧ rest else pendK P (ancB ops i) h' pend ∧ rest
  | .read => VB h.length v ∧ rest
  | _ => rest
def isRead (op : Op) : Bool := match kindOf op with | .read => true | _ => false
def isAct (op : Op) : Bool := match kindOf op with | .act => !isCall op | _ => false
/-- Does anything that follows write? -/
def later : List Oper → Bool
  | [] => false
  | o :: l => isAct o.op || later l
def pendS (z : Bool) (i : Nat) (op : Op) (t : Tmps) (v : Value) (pend : List Pend) : List Pend := match z && isRead op with | true => ⟨i, op, t, v⟩ :: pend | false => pend

/-- A region that draws its order, by its list. -/
def wpDS (P : Program) (ops : Array Oper) (K : Tmps → Heap → Prop) : List Oper → Nat → List Pend → Tmps → Heap → Prop
  | [], _, _, t, h => K t h
  | o :: rest, i, pend, t, h =>
    match o.guard with
    | none => stepKD P t o.op h fun v h' => sideK P ops i o.op pend h v h' (wpDS P ops K rest (i + 1) (pendS (later rest) i o.op t v pend) (updO t o.dst v) h')
    | some (j, z) =>
      match later rest && isRead o.op with
      | true => gd (t (gdst ops j)) z (stepKD P t o.op h fun v h' => sideK P ops i o.op pend h v h' (wpDS P ops K rest (i + 1) (pendS (later rest) i o.op t v pend) (updO t o.dst v) h'))
          (wpDS P ops K rest (i + 1) pend (updO t o.dst undef) h)
      | false => gdK (t (gdst ops j)) z (fun k => stepKD P t o.op h fun v h' => sideK P ops i o.op pend h v h' (k v h')) (fun v h' => wpDS P ops K rest (i + 1) pend (updO t o.dst v) h') h

theorem sideK_of {ops : Array Oper} {i : Nat} {op : Op} {pend : List Pend} {v : Value} {rest : Prop} (hs : sideK P ops i op pend h v h' rest) :
    (match kindOf op with
     | .act => if isCall op then ∃ new, h' = h ++ new else ∀ x ∈ pend, x.i ∈ ancOf ops i ∨ opVal P x.t x.op h' = some (x.v, h')
     | .read => VB h.length v
     | _ => True) ∧ rest := by
  unfold sideK at hs
  split at hs
  · split at hs
    · rename_i hc; simp only [hc, if_true]; exact hs
    · rename_i hc; simp only [hc]; exact ⟨fun x hx => (pendK_all _ hs.1 x hx).imp ancB_mem id, hs.2⟩
  · exact hs
  · exact ⟨trivial, hs⟩

theorem pendS_no {z : Bool} {i : Nat} {op : Op} {t : Tmps} {v : Value} {pend : List Pend} (hz : (z && isRead op) = false) : pendS z i op t v pend = pend := by unfold pendS; rw [hz]

theorem wpDS_sound {ops : Array Oper} {K : Tmps → Heap → Prop} (hg : guardsOK ops = true) : ∀ (k s : Nat) (pend pend' : List Pend) (t : Tmps) (h : Heap), s + k = ops.size → (later (ops.toList.drop s) = true → pend' = pend) →
    wpDS P ops K (ops.toList.drop s) s pend t h → wpD P ops K (List.range' s k) pend' t h := by
  intro k
  induction k with
  | zero =>
    intro s pend pend' t h hs _ hw
    rw [List.drop_of_length_le (by simp; omega)] at hw
    exact hw
  | succ k ih =>
    intro s pend pend' t h hs hp hw
    have hlt : s < ops.size := by omega
    have ho : ops[s]? = some ops[s] := by simp
    rw [List.drop_eq_getElem_cons (by simpa using hlt)] at hw hp
    simp only [Array.getElem_toList] at hw hp
    have hgo := Array.all_eq_true.mp hg s hlt
    rw [List.range'_succ]
    simp only [wpD, ho]
    simp only [wpDS] at hw
    -- what an operation that is done owes, and what follows
    have step : ∀ (v : Value) (h' : Heap) (rest : Prop), sideK P ops s ops[s].op pend h v h' rest →
        (match kindOf ops[s].op with
         | .act => if isCall ops[s].op then ∃ new, h' = h ++ new else ∀ x ∈ pend', x.i ∈ ancOf ops s ∨ opVal P x.t x.op h' = some (x.v, h')
         | .read => VB h.length v
         | _ => True) ∧ rest := by
      intro v h' rest hk
      have h1 := sideK_of hk
      refine ⟨?_, h1.2⟩
      have h2 := h1.1
      split at h2
      · rename_i hkd
        split at h2
        · rename_i hc; rw [if_pos hc]; exact h2
        · rename_i hc
          rw [if_neg hc]
          have : later (ops[s] :: List.drop (s + 1) ops.toList) = true := by simp [later, isAct, hkd, hc]
          rw [hp this]; exact h2
      · exact h2
      · trivial
    have keep : ∀ v : Value, later (List.drop (s + 1) ops.toList) = true → (match kindOf ops[s].op with | .read => (⟨s, ops[s].op, t, v⟩ : Pend) :: pend' | _ => pend') = pendS (later (List.drop (s + 1) ops.toList)) s ops[s].op t v pend := by
      intro v hl
      have hp' := hp (by simp [later, hl])
      subst hp'
      simp only [pendS, hl, isRead, Bool.true_and]
      cases kindOf ops[s].op <;> rfl
    cases hgd : ops[s].guard with
    | none =>
      rw [hgd] at hw
      exact opKD_mono (fun v h' hk => ⟨(step _ _ _ hk).1, ih (s + 1) _ _ _ _ (by omega) (keep v) (step _ _ _ hk).2⟩) (opKD_of hw)
    | some jz =>
      obtain ⟨j, z⟩ := jz
      rw [hgd] at hw hgo
      simp only at hw hgo ⊢
      rw [yielded_gdst hgo]
      have skip : later (List.drop (s + 1) ops.toList) = true → pend' = pend := fun hl => hp (by simp [later, hl])
      split at hw
      · have hw := hw.out
        split
        · rename_i hz; rw [if_pos hz] at hw
          exact opKD_mono (fun v h' hk => ⟨(step _ _ _ hk).1, ih (s + 1) _ _ _ _ (by omega) (keep v) (step _ _ _ hk).2⟩) (opKD_of hw)
        · rename_i hz; rw [if_neg hz] at hw
          exact ih (s + 1) _ _ _ _ (by omega) skip hw
      · rename_i hno
        have hw := hw.out
        split
        · rename_i hz; rw [if_pos hz] at hw
          refine opKD_mono (fun v h' hk => ⟨(step _ _ _ hk).1, ih (s + 1) _ _ _ _ (by omega) (fun hl => ?_) (step _ _ _ hk).2⟩) (opKD_of hw)
          have := keep v hl
          rw [pendS_no hno] at this
          exact this
        · rename_i hz; rw [if_neg hz] at hw
          exact ih (s + 1) _ _ _ _ (by omega) skip hw

/-! ### which slots a piece of code writes -/
def modsOps (ops : Array Oper) : List Nat := ops.toList.filterMap (·.dst)
def mods : Code → List Nat
  | .region _ ops _ => modsOps ops
  | .seq a b => mods a ++ mods b
  | .cond _ a b => mods a ++ mods b
  | .block _ b => mods b
  | .loop b => mods b
  | _ => []
/-- The slots of a loop's head: those that are told, those that it writes besides, the rest. -/
def look (L : List Nat) (xs : List Value) (k : Nat) : Option Value :=
  match L, xs with
  | l :: L, x :: xs => bif Nat.beq l k then some x else look L xs k
  | _, _ => none
def has (M : List Nat) (k : Nat) : Bool :=
  match M with
  | [] => false
  | m :: M => Nat.beq m k || has M k
def mixJ (L : List Nat) (M : Nat) (t : Tmps) (xs : List Value) (j : Tmps) : Tmps := fun k =>
  match look L xs k with
  | some x => x
  | none => bif M.testBit k then j k else t k
def forallL : Nat → (List Value → Prop) → Prop
  | 0, p => p []
  | n + 1, p => ∀ x, forallL n fun xs => p (x :: xs)
theorem forallL_all : ∀ (n : Nat) (p : List Value → Prop), forallL n p → ∀ xs, xs.length = n → p xs
  | 0, p, h, [], _ => h
  | n + 1, p, h, x :: xs, hl => forallL_all n (fun xs => p (x :: xs)) (h x) xs (by simpa using hl)
  | 0, _, _, _ :: _, hl => by simp at hl
  | _ + 1, _, _, [], hl => by simp at hl

/-- The first region's number: a loop's name. -/
def lid : Code → Nat
  | .region id _ _ => id
  | .seq a b => bif Nat.beq (lid a) 0 then lid b else lid a
  | .block _ b => lid b
  | .loop b => lid b + 100000
  | .cond _ a b => bif Nat.beq (lid a) 0 then lid b else lid a
  | _ => 0

def slotOf (L : List Nat) (k : Nat) : Option Nat :=
  match L with
  | [] => none
  | l :: L => bif Nat.beq l k then some 0 else match slotOf L k with | some i => some (i + 1) | none => none
def nth : List Value → Nat → Value
  | x :: _, 0 => x
  | _ :: xs, n + 1 => nth xs n
  | [], _ => undef
def mixN (L : List Nat) (M : Nat) (t : Tmps) (xs : List Value) (j : Tmps) : Tmps := fun k =>
  match slotOf L k with
  | some i => nth xs i
  | none => bif M.testBit k then j k else t k

/-- Code, walked: a loop by what holds of the slots that lv names. -/
def wpK (P : Program) (lv : Nat → List Nat) : Code → (Exit → Tmps → Heap → Prop) → Tmps → Heap → Prop
  | .skip, K => K .normal
  | .label _, K => K .normal
  | .region _ ops draw, K => fun t h => match draw with | true => (match cutLast ops with | some (os, o) => wpDS P os (fun t h => stepK P t o.op h fun v h' => K .normal (updO t o.dst v) h') os.toList 0 [] t h | none => wpDS P ops (K .normal) ops.toList 0 [] t h) | false => wpS P ops (K .normal) ops.toList t h
  | .seq a b, K => fun t h => match lv (2 * lid b + 1) with
    | [] => wpK P lv a (thenK (wpK P lv b K) K) t h
    | M :: L => seqK (fun k => wpK P lv a (thenK (fun t' h' => k (L.map t') h') K) t h) fun xs h' => ∀ j : Tmps, wpK P lv b K (mixN L M t xs j) h'
  | .cond c a b, K => fun t h => cnd (ev t c) (wpK P lv a K t h) (wpK P lv b K t h)
  | .block id b, K => wpK P lv b (inBlockK id K)
  | .loop b, K => fun t h => match lv (2 * lid b) with
    | [] => False
    | M :: L => ∃ (I : List Value → Heap → Prop) (μ : List Value → Heap → Nat), I (L.map t) h ∧
      ∀ (h' : Heap) (j : Tmps), forallL L.length fun xs => I xs h' →
        wpK P lv b (thenK (fun t' h'' => I (L.map t') h'' ∧ μ (L.map t') h'' < μ xs h') K) (mixJ L M t xs j) h'
  | .exit id, K => K (.exit id)
  | .ret, K => K .ret
  | _, _ => fun _ _ => False

/-- Do the masks tell all that is written? -/
def maskOK (lv : Nat → List Nat) : Code → Bool
  | .seq a b => maskOK lv a && maskOK lv b && (match lv (2 * lid b + 1) with | [] => true | M :: _ => (mods a).all fun k => M.testBit k)
  | .cond _ a b => maskOK lv a && maskOK lv b
  | .block _ b => maskOK lv b
  | .loop b => maskOK lv b && (match lv (2 * lid b) with | [] => true | M :: _ => (mods b).all fun k => M.testBit k)
  | _ => true

def Same (M : List Nat) (t t' : Tmps) : Prop := ∀ k, M.contains k = false → t' k = t k
theorem Same.refl (M : List Nat) (t : Tmps) : Same M t t := fun _ _ => rfl
theorem same_upd {M : List Nat} {t t' : Tmps} (hs : Same M t t') {d : Option Nat} (hd : ∀ k, d = some k → k ∈ M) (v : Value) : Same M t (updO t' d v) := by
  intro k hk
  cases d with
  | none => exact hs k hk
  | some d =>
    have : k ≠ d := by rintro rfl; have := hd k rfl; rw [List.contains_iff_mem.mpr this] at hk; cases hk
    simp only [updO, upd, if_neg this]
    exact hs k hk

theorem mem_mods {ops : Array Oper} {i : Nat} {o : Oper} (ho : ops[i]? = some o) {k : Nat} (hk : o.dst = some k) : k ∈ modsOps ops := by
  unfold modsOps
  refine List.mem_filterMap.mpr ⟨o, ?_, hk⟩
  have := Array.mem_of_getElem? ho
  simpa using this

theorem wpL_frame {ops : Array Oper} {K : Tmps → Heap → Prop} {t0 : Tmps} : ∀ (l : List Nat) (t : Tmps) (h : Heap), Same (modsOps ops) t0 t → wpL P ops K l t h → wpL P ops (fun t' h' => Same (modsOps ops) t0 t' ∧ K t' h') l t h := by
  intro l
  induction l with
  | nil => intro t h hs hw; exact ⟨hs, hw⟩
  | cons i l ih =>
    intro t h hs hw
    simp only [wpL] at hw ⊢
    cases ho : ops[i]? with
    | none => rw [ho] at hw; exact ih t h hs hw
    | some o =>
      rw [ho] at hw
      simp only at hw ⊢
      have hd : ∀ k, o.dst = some k → k ∈ modsOps ops := fun k hk => mem_mods ho hk
      cases hg : o.guard with
      | none => rw [hg] at hw; exact opK_mono (fun v h' hk => ih _ _ (same_upd hs hd v) hk) hw
      | some jz =>
        obtain ⟨j, z⟩ := jz
        rw [hg] at hw
        simp only at hw ⊢
        split
        · rename_i hz; rw [if_pos hz] at hw; exact opK_mono (fun v h' hk => ih _ _ (same_upd hs hd v) hk) hw
        · rename_i hz; rw [if_neg hz] at hw; exact ih _ _ (same_upd hs hd _) hw

theorem wpD_frame {ops : Array Oper} {K : Tmps → Heap → Prop} {t0 : Tmps} : ∀ (l : List Nat) (pend : List Pend) (t : Tmps) (h : Heap), Same (modsOps ops) t0 t → wpD P ops K l pend t h → wpD P ops (fun t' h' => Same (modsOps ops) t0 t' ∧ K t' h') l pend t h := by
  intro l
  induction l with
  | nil => intro pend t h hs hw; exact ⟨hs, hw⟩
  | cons i l ih =>
    intro pend t h hs hw
    simp only [wpD] at hw ⊢
    cases ho : ops[i]? with
    | none => rw [ho] at hw; exact hw
    | some o =>
      rw [ho] at hw
      simp only at hw ⊢
      have hd : ∀ k, o.dst = some k → k ∈ modsOps ops := fun k hk => mem_mods ho hk
      cases hg : o.guard with
      | none => rw [hg] at hw; exact opKD_mono (fun v h' hk => ⟨hk.1, ih _ _ _ (same_upd hs hd v) hk.2⟩) hw
      | some jz =>
        obtain ⟨j, z⟩ := jz
        rw [hg] at hw
        simp only at hw ⊢
        split
        · rename_i hz; rw [if_pos hz] at hw; exact opKD_mono (fun v h' hk => ⟨hk.1, ih _ _ _ (same_upd hs hd v) hk.2⟩) hw
        · rename_i hz; rw [if_neg hz] at hw; exact ih _ _ _ (same_upd hs hd _) hw

theorem wpL_mono {ops : Array Oper} {K K' : Tmps → Heap → Prop} (hm : ∀ t h, K t h → K' t h) : ∀ (l : List Nat) (t : Tmps) (h : Heap), wpL P ops K l t h → wpL P ops K' l t h := by
  intro l
  induction l with
  | nil => intro t h hw; exact hm _ _ hw
  | cons i l ih =>
    intro t h hw
    simp only [wpL] at hw ⊢
    cases ho : ops[i]? with
    | none => rw [ho] at hw; exact ih t h hw
    | some o =>
      rw [ho] at hw
      simp only at hw ⊢
      cases hg : o.guard with
      | none => rw [hg] at hw; exact opK_mono (fun v h' hk => ih _ _ hk) hw
      | some jz =>
        obtain ⟨j, z⟩ := jz
        rw [hg] at hw
        simp only at hw ⊢
        split
        · rename_i hz; rw [if_pos hz] at hw; exact opK_mono (fun v h' hk => ih _ _ hk) hw
        · rename_i hz; rw [if_neg hz] at hw; exact ih _ _ hw
theorem wpD_mono {ops : Array Oper} {K K' : Tmps → Heap → Prop} (hm : ∀ t h, K t h → K' t h) : ∀ (l : List Nat) (pend : List Pend) (t : Tmps) (h : Heap), wpD P ops K l pend t h → wpD P ops K' l pend t h := by
  intro l
  induction l with
  | nil => intro pend t h hw; exact hm _ _ hw
  | cons i l ih =>
    intro pend t h hw
    simp only [wpD] at hw ⊢
    cases ho : ops[i]? with
    | none => rw [ho] at hw; exact hw
    | some o =>
      rw [ho] at hw
      simp only at hw ⊢
      cases hg : o.guard with
      | none => rw [hg] at hw; exact opKD_mono (fun v h' hk => ⟨hk.1, ih _ _ _ hk.2⟩) hw
      | some jz =>
        obtain ⟨j, z⟩ := jz
        rw [hg] at hw
        simp only at hw ⊢
        split
        · rename_i hz; rw [if_pos hz] at hw; exact opKD_mono (fun v h' hk => ⟨hk.1, ih _ _ _ hk.2⟩) hw
        · rename_i hz; rw [if_neg hz] at hw; exact ih _ _ _ hw

def gokC : Code → Bool
  | .region _ ops draw => match draw with | true => (match cutLast ops with | some (os, _) => guardsOK os | none => guardsOK ops) | false => guardsOK ops
  | .seq a b => gokC a && gokC b
  | .cond _ a b => gokC a && gokC b
  | .block _ b => gokC b
  | .loop b => gokC b
  | _ => true

theorem same_left {A B : List Nat} {t t' : Tmps} (hs : Same A t t') : Same (A ++ B) t t' := fun k hk => hs k (by
  cases h : A.contains k with
  | false => rfl
  | true => rw [List.contains_iff_mem] at h; rw [List.contains_iff_mem.mpr (List.mem_append_left _ h)] at hk; cases hk)
theorem same_right {A B : List Nat} {t t' : Tmps} (hs : Same B t t') : Same (A ++ B) t t' := fun k hk => hs k (by
  cases h : B.contains k with
  | false => rfl
  | true => rw [List.contains_iff_mem] at h; rw [List.contains_iff_mem.mpr (List.mem_append_right _ h)] at hk; cases hk)
theorem Same.sub {A B : List Nat} {t t' : Tmps} (hm : ∀ k, k ∈ A → k ∈ B) (hs : Same A t t') : Same B t t' := fun k hk => hs k (by
  cases h : A.contains k with
  | false => rfl
  | true => rw [List.contains_iff_mem.mpr (hm k (List.contains_iff_mem.mp h))] at hk; cases hk)
theorem Same.trans {M : List Nat} {a b c : Tmps} (h : Same M a b) (k : Same M b c) : Same M a c := fun i hi => (k i hi).trans (h i hi)
theorem look_map (t : Tmps) : ∀ (L : List Nat) (k : Nat), look L (L.map t) k = if L.contains k then some (t k) else none
  | [], k => rfl
  | l :: L, k => by
    simp only [look, List.map_cons, List.contains_cons, look_map t L k]
    by_cases e : l = k
    · subst e; simp
    · have h1 : Nat.beq l k = false := by rw [← Bool.not_eq_true, Nat.beq_eq]; exact e
      have h2 : (k == l) = false := by simpa using Ne.symm e
      rw [h1, h2]; simp
theorem mask_off {N : List Nat} {M k : Nat} (hm : (N.all fun k => M.testBit k) = true) (hk : M.testBit k = false) : N.contains k = false := by
  cases h : N.contains k with
  | false => rfl
  | true =>
    have := List.all_eq_true.mp hm k (List.contains_iff_mem.mp h)
    rw [hk] at this; cases this
theorem mixJ_self {L N : List Nat} {M : Nat} {t t' : Tmps} (hs : Same N t t') (hm : (N.all fun k => M.testBit k) = true) : mixJ L M t (L.map t') t' = t' := by
  funext k
  unfold mixJ
  rw [look_map]
  split
  · rename_i x hx
    split at hx
    · exact (Option.some.inj hx).symm
    · cases hx
  · cases h : M.testBit k with
    | true => rfl
    | false => exact (hs k (mask_off hm h)).symm

theorem nth_slot (t' : Tmps) {k : Nat} : ∀ {L : List Nat} {i : Nat}, slotOf L k = some i → nth (L.map t') i = t' k
  | [], i, h => by cases h
  | l :: L, i, h => by
    simp only [slotOf] at h
    cases hb : Nat.beq l k with
    | true =>
      rw [hb] at h
      cases h
      rw [Nat.eq_of_beq_eq_true hb]
      rfl
    | false =>
      rw [hb] at h
      simp only [cond_false] at h
      split at h
      · rename_i i' hi
        cases h
        show nth (L.map t') i' = t' k
        exact nth_slot t' hi
      · cases h
theorem mixN_self {L N : List Nat} {M : Nat} {t t' : Tmps} (hs : Same N t t') (hm : (N.all fun k => M.testBit k) = true) : mixN L M t (L.map t') t' = t' := by
  funext k
  unfold mixN
  split
  · rename_i i hi; exact nth_slot t' hi
  · cases h : M.testBit k with
    | true => rfl
    | false => exact (hs k (mask_off hm h)).symm

theorem wpK_sound (lv : Nat → List Nat) : ∀ (c : Code) (K K' : Exit → Tmps → Heap → Prop) (t : Tmps) (h : Heap), gokC c = true → maskOK lv c = true → (∀ e t' h', Same (mods c) t t' → K e t' h' → K' e t' h') → wpK P lv c K t h → wpC P c K' t h := by
  intro c
  induction c with
  | skip => intro K K' t h _ _ hK hw; exact hK _ _ _ (Same.refl _ _) hw
  | label l => intro K K' t h _ _ hK hw; exact hK _ _ _ (Same.refl _ _) hw
  | exit id => intro K K' t h _ _ hK hw; exact hK _ _ _ (Same.refl _ _) hw
  | ret => intro K K' t h _ _ hK hw; exact hK _ _ _ (Same.refl _ _) hw
  | region id ops draw =>
    intro K K' t h hg hm hK hw
    cases draw with
    | true =>
      simp only [gokC] at hg
      simp only [wpC, wpR]
      simp only [wpK] at hw
      split at hw
      · rename_i os o hcut
        rw [hcut] at hg
        rw [hcut]
        have h1 := wpDS_sound (P := P) hg os.size 0 [] [] t h (by omega) (fun _ => rfl) (by simpa using hw)
        obtain ⟨rfl, n, hsz, hn, _⟩ := cutLast_spec hcut
        refine wpD_mono ?_ _ _ _ _ (wpD_frame _ _ _ _ (Same.refl _ _) h1)
        rintro t' h' ⟨hs, hk⟩
        refine opK_mono (fun v h'' hk => ?_) (opK_of hk)
        refine hK _ _ _ (same_upd (Same.sub ?_ hs) (fun k hk => mem_mods hn hk) v) hk
        intro k hk
        unfold modsOps at hk ⊢
        rw [List.mem_filterMap] at hk ⊢
        obtain ⟨x, hx, hd⟩ := hk
        refine ⟨x, ?_, hd⟩
        rw [Array.toList_pop] at hx
        exact (List.dropLast_sublist _).subset hx
      · rename_i hcut
        rw [hcut] at hg
        rw [hcut]
        have h1 := wpDS_sound (P := P) hg ops.size 0 [] [] t h (by omega) (fun _ => rfl) (by simpa using hw)
        exact wpD_mono (fun t' h' hk => hK _ _ _ hk.1 hk.2) _ _ _ _ (wpD_frame _ _ _ _ (Same.refl _ _) h1)
    | false =>
      have h1 := wpS_sound (P := P) hg ops.size 0 t h (by omega) (by simpa [wpK] using hw)
      have h2 := wpL_mono (fun t' h' hk => hK _ _ _ hk.1 hk.2) _ _ _ (wpL_frame _ _ _ (Same.refl _ _) h1)
      simp only [wpC]
      rw [List.range_eq_range']
      exact h2
  | seq a b iha ihb =>
    intro K K' t h hg hm hK hw
    simp only [gokC, Bool.and_eq_true] at hg
    simp only [maskOK, Bool.and_eq_true] at hm
    have hw' : wpK P lv a (thenK (wpK P lv b K) K) t h ∨ ∃ (M : Nat) (L : List Nat), ((mods a).all fun k => M.testBit k) = true ∧ wpK P lv a (thenK (fun t' h' => ∀ j : Tmps, wpK P lv b K (mixN L M t (L.map t') j) h') K) t h := by
      have hm2 := hm.2
      simp only [wpK] at hw
      split at hw
      · exact .inl hw
      · rename_i hl
        rw [hl] at hm2
        exact .inr ⟨_, _, hm2, hw.out⟩
    have go : ∀ X : Tmps → Heap → Prop, (∀ t' h', Same (mods a) t t' → X t' h' → wpK P lv b K t' h') → wpK P lv a (thenK X K) t h → wpC P a (thenK (wpC P b K') K') t h := ?_
    · rcases hw' with hw | ⟨M, L, hml, hw⟩
      · exact go _ (fun _ _ _ h => h) hw
      · exact go _ (fun t' h' hs h => by have := h t'; rwa [mixN_self hs hml] at this) hw
    intro X hX hw
    refine iha _ _ t h hg.1 hm.1.1 ?_ hw
    intro e t' h' hs hk
    cases e with
    | normal => exact ihb K K' t' h' hg.2 hm.1.2 (fun e t2 h2 hs2 hk2 => hK e t2 h2 ((same_left hs).trans (same_right hs2)) hk2) (hX _ _ hs hk)
    | exit id => exact hK _ _ _ (same_left hs) hk
    | goto l => exact hK _ _ _ (same_left hs) hk
    | ret => exact hK _ _ _ (same_left hs) hk
    | panic ch => exact hK _ _ _ (same_left hs) hk
    | outgrown => exact hK _ _ _ (same_left hs) hk
  | cond c a b iha ihb =>
    intro K K' t h hg hm hK hw
    simp only [gokC, Bool.and_eq_true] at hg
    simp only [maskOK, Bool.and_eq_true] at hm
    simp only [wpK] at hw
    have hw := hw.out
    simp only [wpC]
    split at hw
    · rename_i he; rw [he]; exact iha K K' t h hg.1 hm.1 (fun e t' h' hs hk => hK e t' h' (same_left hs) hk) hw
    · rename_i he; rw [he]; exact ihb K K' t h hg.2 hm.2 (fun e t' h' hs hk => hK e t' h' (same_right hs) hk) hw
    · exact hw.elim
  | block id b ih =>
    intro K K' t h hg hm hK hw
    refine ih _ _ t h hg hm ?_ hw
    intro e t' h' hs hk
    cases e with
    | exit i =>
      simp only [inBlockK] at hk ⊢
      split
      · rename_i hz; rw [if_pos hz] at hk; exact hK _ _ _ hs hk
      · rename_i hz; rw [if_neg hz] at hk; exact hK _ _ _ hs hk
    | normal => exact hK _ _ _ hs hk
    | goto l => exact hK _ _ _ hs hk
    | ret => exact hK _ _ _ hs hk
    | panic ch => exact hK _ _ _ hs hk
    | outgrown => exact hK _ _ _ hs hk
  | loop b ih =>
    intro K K' t h hg hm hK hw
    simp only [maskOK, Bool.and_eq_true] at hm
    have hm2 := hm.2
    simp only [wpK] at hw
    split at hw
    · exact hw.elim
    rename_i M L hl
    rw [hl] at hm2
    obtain ⟨I, μ, h1, h2⟩ := hw
    refine ⟨fun t' h' => Same (mods b) t t' ∧ I (L.map t') h', fun t' h' => μ (L.map t') h', ⟨Same.refl _ _, h1⟩, ?_⟩
    rintro t' h' ⟨hs, hI⟩
    have e := mixJ_self (L := L) hs hm2
    have h3 := forallL_all _ _ (h2 h' t') (L.map t') (by simp) hI
    rw [e] at h3
    refine ih _ _ t' h' hg hm.1 ?_ h3
    intro ex t2 h2' hs2 hk
    cases ex with
    | normal => exact ⟨⟨hs.trans hs2, hk.1⟩, hk.2⟩
    | exit id => exact hK _ _ _ (hs.trans hs2) hk
    | goto l => exact hK _ _ _ (hs.trans hs2) hk
    | ret => exact hK _ _ _ (hs.trans hs2) hk
    | panic ch => exact hK _ _ _ (hs.trans hs2) hk
    | outgrown => exact hK _ _ _ (hs.trans hs2) hk
  | rangeFunc _ _ _ _ _ _ => intro K K' t h _ _ _ hw; exact hw.elim
  | scope _ _ => intro K K' t h _ _ _ hw; exact hw.elim
  | goto _ => intro K K' t h _ _ _ hw; exact hw.elim
  | refuse _ => intro K K' t h _ _ _ hw; exact hw.elim

/-- What a function's end must show, its results told. -/
def resOf (P : Program) (t : Tmps) (h : Heap) : ResultVar → Option Value
  | .tmp k => some (t k)
  | .cell k ty => aLoad P ty (t k) h
def seqO : List (Option Value) → Option (List Value)
  | [] => some []
  | o :: l => match o, seqO l with | some v, some vs => some (v :: vs) | _, _ => none
theorem resVals_eq (t : Tmps) (h : Heap) : ∀ l, resVals P t h l = seqO (l.map (resOf P t h))
  | [] => rfl
  | .tmp k :: l => by
    simp only [resVals, List.map_cons, resOf, seqO, resVals_eq t h l]
    cases seqO (List.map (resOf P t h) l) <;> rfl
  | .cell k ty :: l => by
    simp only [resVals, List.map_cons, resOf, seqO, resVals_eq t h l]
    cases aLoad P ty (t k) h <;> cases seqO (List.map (resOf P t h) l) <;> rfl
def retV (l : List (Option Value)) (R : Value → Heap → Prop) (h : Heap) : Prop := match seqO l with | some vs => R (resV vs) h | none => False
def endK (P : Program) (rs : List ResultVar) (R : Value → Heap → Prop) : Exit → Tmps → Heap → Prop
  | .normal, t, h | .ret, t, h => retV (rs.map (resOf P t h)) R h
  | _, _, _ => False
def lkOK (P : Program) (lv : Nat → List Nat) (fn : Func) (n : Nat) (c : Code) (f : FuncId) : Bool :=
  codeOK P.globals.size fn.ntmps c && resOK fn.ntmps fn.results.toList && decide (n ≤ fn.ntmps) && callable P f && P.follows .mixedOrders && (gokC c && maskOK lv c)
theorem RunsP.of_code {f : FuncId} {fn : Func} {c : Code} {rs : List ResultVar} {n : Nat} {args : List Value} {R : Value → Heap → Prop} (hf : P.funcs[f]? = some fn) (hb : fn.body = some c) (hrs : fn.results.toList = rs)
    (lv : Nat → List Nat) (hok : lkOK P lv fn n c f = true) (hn : args.length = n) (hw : wpK P lv c (endK P rs R) (argT args) h) : RunsP P f args h R := by
  subst hrs hn
  unfold lkOK at hok
  rw [Bool.and_eq_true] at hok
  have hok2 := (Bool.and_eq_true _ _).mp hok.2
  refine RunsP.of_body hf hb hok.1 (wpK_sound lv c _ _ _ _ hok2.1 hok2.2 ?_ hw)
  intro e t' h' _ hk
  cases e <;> first | exact hk | (simp only [retK, resVals_eq]; exact hk)

/-! ### the forms that are printed -/
abbrev cK (P : Program) (f : FuncId) (args : List Value) (h : Heap) (K : Value → Heap → Prop) : Prop := callK P (some (f, args)) h K
abbrev cKD (P : Program) (f : FuncId) (args : List Value) (h : Heap) (K : Value → Heap → Prop) : Prop := callKD P (some (f, args)) h K

end Go.AM
