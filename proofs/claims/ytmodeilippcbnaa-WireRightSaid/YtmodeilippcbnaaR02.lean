/- Parts of the proof, joined by program: The abstract machine and the model: aggregates, lengths, maps; The abstract machine and the model: reading operations, all; The abstract machine and the model: operations that make a block; The abstract machine and the model: stores, appends, copies; The abstract machine and the model: appends and copies; The abstract machine and the model: copies, maps, the other effects; The abstract machine and the model: one operation, whatever it does. -/
import Derived.Test.YtmodeilippcbnaaR01
import Derived.Laws.BytesString
import Derived.Laws.AppendOwn
set_option linter.all false
section
namespace Go.Ab

section
variable {P : Program} {T : Tab} {ng : Nat} {μ : Inj} {H : Heap} {w : World}

theorem VRel.cells {v v' : Value} (h : VRel μ v v') : VRels μ v.cells.toList v'.cells.toList := by
  cases h <;> first
    | (exact .cons _ _ _ _ (by constructor <;> assumption) .nil)
    | skip
  case agg a a' h => exact h
theorem VRel.oneCell {v v' : Value} (h : VRel μ v v') : oneCell v' = oneCell v := by cases h <;> rfl
theorem VRels.oneCells : ∀ {l l' : List Value}, VRels μ l l' → l'.all Ab.oneCell = l.all Ab.oneCell
  | _, _, .nil => rfl
  | _, _, .cons v v' l l' h t => by simp only [List.all_cons, h.oneCell, t.oneCells]

theorem foldl_set (off : Nat) : ∀ (vs : List Value) (k : Nat) (cs : Array Value), ((vs.zipIdx k).foldl (fun cs (p : Value × Nat) => cs.setIfInBounds (off + p.2) p.1) cs).toList = setSeg cs.toList (off + k) vs
  | [], _, _ => rfl
  | v :: vs, k, cs => by
    simp only [List.zipIdx_cons, List.foldl_cons, setSeg]
    rw [foldl_set off vs (k + 1)]
    simp [Nat.add_assoc]

theorem fillL_sim {place : Nat → Option (Nat × Nat)} : ∀ {parts parts' : List (Nat × Value)} {c l : List Value} {c' : Array Value}, parts.map (·.1) = parts'.map (·.1) → VRels μ (parts.map (·.2)) (parts'.map (·.2)) →
    VRels μ c c'.toList → fillL place c parts = some l → ∃ l', Instr.fill place c' parts' = some l' ∧ VRels μ l l'.toList
  | [], [], c, l, c', _, _, hc, h => by simp [fillL] at h; subst h; exact ⟨c', rfl, hc⟩
  | p :: r, p' :: r', c, l, c', hi, hv, hc, h => by
    simp only [List.map_cons, List.cons.injEq] at hi
    cases hv with
    | cons _ _ _ _ hv ht =>
      obtain ⟨i, v⟩ := p
      obtain ⟨i', v'⟩ := p'
      simp only at hi hv
      obtain ⟨rfl, hi⟩ := hi
      simp only [fillL] at h
      split at h
      · cases h
      · rename_i q hq
        split at h
        · rename_i hcond
          have hcells := hv.cells
          have hlen := hcells.length
          have hclen := hc.length
          simp only [Array.length_toList] at hlen hclen hcond
          have := fillL_sim (place := place) (c' := v'.cells.zipIdx.foldl (fun cs (p : Value × Nat) => cs.setIfInBounds (q.1 + p.2) p.1) c') hi ht (by
            have e : (v'.cells.zipIdx.foldl (fun cs (p : Value × Nat) => cs.setIfInBounds (q.1 + p.2) p.1) c').toList = setSeg c'.toList q.1 v'.cells.toList := by
              rw [← Array.foldl_toList, Array.toList_zipIdx]
              exact foldl_set q.1 v'.cells.toList 0 c'
            rw [e]
            exact hcells.setSeg hc q.1) h
          obtain ⟨l', h1, h2⟩ := this
          refine ⟨l', ?_, h2⟩
          obtain ⟨q1, q2⟩ := q
          simp only at hcond h1
          simp only [Instr.fill, hq]
          rw [if_neg (by simp; omega)]
          exact h1
        · cases h
  | [], _ :: _, _, _, _, hi, _, _, _ => by simp at hi
  | _ :: _, [], _, _, _, hi, _, _, _ => by simp at hi

theorem zero_rel {i : TInfo} {z : Value} (hz : i.zero = some z) (h : zeroOk i = true) : VRel μ z z := flat_refl (by simpa [zeroOk, hz] using h)

theorem mapM_sizes {fs : List Field} {f : Field → Sem (Nat × Nat)} {g : Field → Nat × Nat} (h : ∀ x ∈ fs, (f x).run P w = .ok (g x) w) : (fs.mapM f).run P w = .ok (fs.map g) w := by
  induction fs with
  | nil => rfl
  | cons x xs ih =>
    simp [List.mapM_cons, h x (by simp), ih fun y hy => h y (by simp [hy])]

theorem fillBuild_sim (hT : T.Ok P ng) {ρ ρ' : Operand → Value} {t : TypeId} {parts : Array (Nat × Operand)} {v : Value} (hp : ∀ p ∈ parts.toList, VRel μ (ρ p.2) (ρ' p.2))
    (h : fillBuild T t (parts.toList.map fun p => (p.1, ρ p.2)) = some v) :
    ∃ v', (Instr.build t (parts.map fun (i, x) => (i, ρ' x))).run P w = .ok v' w ∧ VRel μ v v' := by
  have hparts : (parts.map fun (x : Nat × Operand) => match x with | (i, x) => (i, ρ' x)).toList = parts.toList.map fun p => (p.1, ρ' p.2) := by simp
  have e1 : (parts.toList.map fun p => (p.1, ρ p.2)).map (·.1) = (parts.toList.map fun p => (p.1, ρ' p.2)).map (·.1) := by simp
  have e2 : VRels μ ((parts.toList.map fun p => (p.1, ρ p.2)).map (·.2)) ((parts.toList.map fun p => (p.1, ρ' p.2)).map (·.2)) := by
    simp only [List.map_map]; exact VRels.map_mem hp
  unfold fillBuild at h
  split at h
  · rename_i fs _ _ z _ fields hty
    have hi := hT.ty _ _ hty
    have hz := zero_rel (μ := μ) (i := _) rfl (hT.zero _ _ hty)
    have hu := tinfo_desc hi
    have hf := tinfo_fields hi (fs := fs) rfl
    have hft := tinfo_ftypes hi (fs := fs) rfl w
    simp only at hu hf
    cases hl : fillL (fun i => fields[i]?) z.cells.toList (parts.toList.map fun p => (p.1, ρ p.2)) with
    | none => rw [hl] at h; cases h
    | some l =>
      rw [hl] at h; simp at h; subst h
      obtain ⟨l', k1, k2⟩ := fillL_sim (place := fun i => fields[i]?) e1 e2 hz.cells hl
      refine ⟨.agg l', ?_, .agg _ _ (by simpa using k2)⟩
      have hm : (fs.mapM fun f => (do pure (f.offset, ← sizeOf f.type) : Sem (Nat × Nat))).run P w = .ok fields.toArray w := by
        rw [Array.mapM_eq_mapM_toList, Sem.run_map, mapM_sizes (g := fun f => (f.offset, P.cellsOf f.type)) (fun f hf => by simp [hft f hf])]
        simp [hf]
      have hplace : (fun (x : Nat) => fields.toArray[x]?) = fun (i : Nat) => fields[i]? := by funext x; simp
      simp only [Instr.build, Sem.run_bind, r_zeroValue w hi rfl, r_underlying w hi, Result.andThen_ok, hm, hparts, hplace, k1, Sem.run_pure]
  · rename_i n e _ _ z _ _ hty
    have hi := hT.ty _ _ hty
    have hz := zero_rel (μ := μ) (i := _) rfl (hT.zero _ _ hty)
    split at h
    · rename_i ie hte
      have hie := hT.ty _ _ hte
      cases hl : fillL (fun k => some (k * ie.size, ie.size)) z.cells.toList (parts.toList.map fun p => (p.1, ρ p.2)) with
      | none => rw [hl] at h; cases h
      | some l =>
        rw [hl] at h; simp at h; subst h
        obtain ⟨l', k1, k2⟩ := fillL_sim (place := fun k => some (k * ie.size, ie.size)) e1 e2 hz.cells hl
        refine ⟨.agg l', ?_, .agg _ _ (by simpa using k2)⟩
        simp only [Instr.build, Sem.run_bind, r_zeroValue w hi rfl, r_underlying w hi, r_sizeOf w hie, Result.andThen_ok, hparts, k1, Sem.run_pure]
    · cases h
  · cases h

theorem partC_sim {i : TInfo} {t : TypeId} {c d : List Value} {off : Nat} {v : Value} (ht : tinfo P t = some i) (hc : VRels μ c d) (h : partC i c off = some v) :
    ∃ v', (part t d.toArray off).run P w = .ok v' w ∧ VRel μ v v' := by
  unfold partC at h
  cases hagg : i.agg with
  | true =>
    simp only [hagg, if_true] at h
    cases hs : seg c off i.size with
    | none => simp [hs] at h
    | some l =>
      simp only [hs, Option.map_some, Option.some.injEq] at h
      subst h
      refine ⟨.agg (d.toArray.extract off (off + i.size)), ?_, .agg _ _ ?_⟩
      · simp [part, r_isAgg w ht, r_sizeOf w ht, hagg]
      · have := seg_rel hs hc
        have e : (d.toArray.extract off (off + i.size)).toList = (d.drop off).take i.size := by simp [List.take_drop]
        rw [e]; simpa using this
  | false =>
    simp only [hagg, Bool.false_eq_true, if_false] at h
    obtain ⟨v', hv', hr⟩ := hc.get off v h
    refine ⟨v', ?_, hr⟩
    have hd : d.toArray[off]? = some v' := by simpa using hv'
    simp [part, r_isAgg w ht, hagg, hv']

/-! ### maps -/
theorem keyFlat_flat {d : TypeDesc} {k : Value} (h : keyFlat d k = true) : flat1 k = true := by
  unfold keyFlat at h
  split at h <;> first | rfl | cases h

theorem checkKey_run {t : TypeId} {i : TInfo} {k : Value} (ht : tinfo P t = some i) (h : keyFlat i.desc k = true) (b : Bool) : (Instr.checkKey b 10000 t k).run P w = .ok () w := by
  have hu := r_underlying w ht
  show (Instr.checkKey b (9999 + 1) t k).run P w = .ok () w
  unfold keyFlat at h
  unfold Instr.checkKey
  split at h
  · rename_i hd
    simp [hu, hd]
  · rename_i hd
    simp [hu, hd]
  · rename_i hd
    simp [hu, hd]
  · cases h

theorem findE_sim {d : TypeDesc} {k : Value} : ∀ {es es' : List MapEntry} {n : Nat} {r : Option (Nat × Value)}, ERels μ es es' → findE d k es n = some r →
    ∃ r', Instr.findNow d k es' n = some r' ∧ (match r, r' with | none, none => True | some p, some p' => p.1 = p'.1 ∧ VRel μ p.2 p'.2 ∧ n ≤ p.1 ∧ ∃ e, es[p.1 - n]? = some e ∧ Instr.sameNow d k e.key = some true | _, _ => False)
  | [], _, n, r, .nil, h => by simp [findE] at h; subst h; exact ⟨none, rfl, trivial⟩
  | e :: es, _, n, r, .cons _ e' _ es' he ht, h => by
    have hk : Instr.sameNow d k e'.key = Instr.sameNow d k e.key ∨ Instr.sameNow d k e.key = none := by
      have := he.key
      generalize e.key = ek at *
      generalize e'.key = ek' at *
      cases this <;> first | exact .inl rfl | (right; unfold Instr.sameNow; cases d <;> cases k <;> rfl)
    simp only [findE] at h
    split at h
    · rename_i hs
      simp at h; subst h
      rcases hk with hk | hk
      · exact ⟨some (n, e'.val), by simp [Instr.findNow, hk, hs], rfl, he.val, Nat.le_refl _, e, by simp, hs⟩
      · rw [hs] at hk; cases hk
    · rename_i hs
      rcases hk with hk | hk
      · obtain ⟨r', h1, h2⟩ := findE_sim ht h
        refine ⟨r', by simp [Instr.findNow, hk, hs, h1], ?_⟩
        cases r <;> cases r' <;> simp only at h2 ⊢
        obtain ⟨a, b, c, f, g1, g2⟩ := h2
        refine ⟨a, b, by omega, f, ?_, g2⟩
        rename_i p _
        have : p.1 - n = (p.1 - (n + 1)) + 1 := by omega
        rw [this]; simpa using g1
      · rw [hs] at hk; cases hk
    · cases h

theorem Rel.map (hR : Rel ng μ H.get w) {b : Nat} {es : List MapEntry} {cl : Nat} (hb : H.get b = .map es cl) :
    ∃ t es', μ b = some t ∧ t.off = 0 ∧ w.heap[t.cb]? = some (.map es' cl) ∧ ERels μ es es'.toList := by
  obtain ⟨t, o, h1, h2, h3⟩ := hR.obj b (by rw [hb]; simp)
  rw [hb] at h3
  obtain ⟨es', rfl, h4, h5⟩ := h3
  exact ⟨t, es', h1, h4, h2, h5⟩

theorem run_getObj_map {r : Nat} {es : Array MapEntry} {cl : Nat} (h : w.heap[r]? = some (.map es cl)) : (getObj r).run P w = .ok (.map es cl) w := by
  simp [getObj, Sem.run, h]

theorem findKey_run {kt : TypeId} {ki : TInfo} {k : Value} {es : List MapEntry} {r : Option (Nat × Value)} (hk : tinfo P kt = some ki) (h : Instr.findNow ki.desc k es 0 = some r) :
    (Instr.findKey kt k es).run P w = .ok r w := by
  simp [Instr.findKey, r_underlying w hk, h]

theorem lookupC_sim (hT : T.Ok P ng) (hR : Rel ng μ H.get w) {t : TypeId} {m m' k k' : Value} {ok : Bool} {v : Value} (hm : VRel μ m m') (hk : VRel μ k k') (h : lookupC T H t m k ok = some v) :
    ∃ v', (Instr.lookup t m' k' ok).run P w = .ok v' w ∧ VRel μ v v' := by
  unfold lookupC at h
  split at h
  · rename_i kt et _ _ _ _ _ hty
    have hu := r_underlying w (hT.ty _ _ hty)
    split at h
    · rename_i ki ei hk1 he1
      have hki := hT.ty _ _ hk1
      have hei := hT.ty _ _ he1
      split at h
      · rename_i hkf
        have ek : k' = k := hk.flat1_eq (keyFlat_flat hkf)
        subst ek
        have hz : ∀ z, ei.zero = some z → VRel μ z z := fun z hz => zero_rel hz (hT.zero _ _ he1)
        split at h
        · cases hm
          cases hzz : ei.zero with
          | none => simp [hzz] at h
          | some z =>
            simp [hzz] at h
            have hzr := hz z hzz
            refine ⟨if ok then .tuple #[z, .bool false] else z, ?_, ?_⟩
            · have hf : (Instr.findKey kt k' []).run P w = .ok none w := findKey_run hki rfl
              simp [Instr.lookup, hu, checkKey_run hki hkf, hf, r_zeroValue w hei hzz]
            · subst h
              cases ok
              · exact hzr
              · exact .tuple _ _ (.cons _ _ _ _ hzr (.cons _ _ _ _ (.bool _) .nil))
        · rename_i b
          cases hm with
          | map _ tg hmu =>
          split at h
          · rename_i es cl hb
            obtain ⟨tg', es', h1, h2, h3, h4⟩ := hR.map hb
            rw [hmu] at h1; cases h1
            split at h
            · rename_i p hf
              obtain ⟨r', k1, k2⟩ := findE_sim h4 hf
              cases r' with
              | none => exact absurd k2 id
              | some p' =>
                obtain ⟨_, k2, _⟩ := k2
                simp at h
                refine ⟨if ok then .tuple #[p'.2, .bool true] else p'.2, ?_, ?_⟩
                · simp [Instr.lookup, hu, run_getObj_map h3, checkKey_run hki hkf, findKey_run hki k1]
                · subst h
                  cases ok
                  · exact k2
                  · exact .tuple _ _ (.cons _ _ _ _ k2 (.cons _ _ _ _ (.bool _) .nil))
            · rename_i hf
              obtain ⟨r', k1, k2⟩ := findE_sim h4 hf
              cases r' with
              | some p' => exact absurd k2 id
              | none =>
                cases hzz : ei.zero with
                | none => simp [hzz] at h
                | some z =>
                  simp [hzz] at h
                  have hzr := hz z hzz
                  refine ⟨if ok then .tuple #[z, .bool false] else z, ?_, ?_⟩
                  · simp [Instr.lookup, hu, run_getObj_map h3, checkKey_run hki hkf, findKey_run hki k1, r_zeroValue w hei hzz]
                  · subst h
                    cases ok
                    · exact hzr
                    · exact .tuple _ _ (.cons _ _ _ _ hzr (.cons _ _ _ _ (.bool _) .nil))
            · cases h
          · cases h
        · cases h
      · cases h
    · cases h
  · cases h

theorem ERels.length : ∀ {l l' : List MapEntry}, ERels μ l l' → l.length = l'.length
  | _, _, .nil => rfl
  | _, _, .cons _ _ _ _ _ t => by simp [t.length]

theorem lenC_sim (hT : T.Ok P ng) (hR : Rel ng μ H.get w) {t : TypeId} {x x' v : Value} {ts : Array TypeId} {args : Array Value} {ty : TypeId} (hx : VRel μ x x') (ht : ts[0]? = some t) (ha : args[0]? = some x')
    (h : lenC T H t x = some v) : (Builtin.len_ ts ty args).run P w = .ok v w ∧ VRel μ v v := by
  unfold lenC descOf at h
  cases hd : T.ty t with
  | none => simp [hd] at h
  | some i =>
    have hu := r_underlying w (hT.ty _ _ hd)
    simp only [hd, Option.map_some] at h
    split at h
    · rename_i hd2; simp only [Option.some.injEq] at hd2; simp at h; subst h; cases hx
      exact ⟨by simp [Builtin.len_, ht, ha, hu, hd2], .int _ _⟩
    · rename_i hd2; simp only [Option.some.injEq] at hd2; simp at h; subst h
      exact ⟨by simp [Builtin.len_, ht, ha, hu, hd2], .int _ _⟩
    · rename_i hd2; simp only [Option.some.injEq] at hd2; simp at h; subst h
      cases hx <;> exact ⟨by simp [Builtin.len_, ht, ha, hu, hd2], .int _ _⟩
    · rename_i hd2; simp only [Option.some.injEq] at hd2; simp at h; subst h; cases hx
      exact ⟨by simp [Builtin.len_, ht, ha, hu, hd2], .int _ _⟩
    · rename_i hd2; simp only [Option.some.injEq] at hd2
      cases hx with
      | map _ tg hmu =>
      split at h
      · rename_i es cl hb
        obtain ⟨tg', es', h1, h2, h3, h4⟩ := hR.map hb
        rw [hmu] at h1; cases h1
        simp at h; subst h
        refine ⟨?_, .int _ _⟩
        simp [Builtin.len_, ht, ha, hu, hd2, run_getObj_map h3, h4.length]
      · cases h
    · cases h

end
end Go.Ab
end
section
namespace Go.Ab

section
variable {P : Program} {T : Tab} {ng : Nat} {μ : Inj} {H : Heap} {w : World} {ρ ρ' : Operand → Value} {o : Oper} {v : Value}

theorem byteOf_inv {x : Value} {b : UInt8} (h : byteOf? x = some b) : x = .int .u8 (b.toNat : Int) := by
  unfold byteOf? at h
  split at h
  · rename_i n
    split at h
    · rename_i hc
      simp at h; subst h
      have : n.toNat < 256 := by omega
      rw [UInt8.toNat_ofNat_of_lt' this]
      congr 1; omega
    · cases h
  · cases h

theorem bytesOf_inv : ∀ {l : List Value} {bs : List UInt8}, bytesOf? l = some bs → l = bs.map fun b => .int .u8 (b.toNat : Int)
  | [], bs, h => by simp [bytesOf?] at h; subst h; rfl
  | v :: vs, bs, h => by
    simp only [bytesOf?] at h
    split at h
    · rename_i b l hb hl
      simp at h; subst h
      simp [byteOf_inv hb, ← bytesOf_inv hl]
    · cases h

theorem foldl_push (bs : List UInt8) : ∀ r : ByteArray, ((bs.map fun b => (b.toNat : Int)).foldl (fun r (n : Int) => r.push (UInt8.ofNat n.toNat)) r) = ⟨r.data ++ bs.toArray⟩ := by
  induction bs with
  | nil => intro r; simp
  | cons b bs ih =>
    intro r
    simp only [List.map_cons, List.foldl_cons]
    rw [ih]
    simp [ByteArray.push]

theorem bytes_rel : ∀ (bs : List UInt8) {l' : List Value}, VRels μ (bs.map fun b => .int .u8 (b.toNat : Int)) l' → l' = bs.map fun b => .int .u8 (b.toNat : Int)
  | [], _, .nil => rfl
  | b :: bs, _, .cons _ _ _ _ h t => by rw [h.int_inv, bytes_rel bs t]; rfl


theorem aread_sim (hT : T.Ok P ng) (hR : Rel ng μ H.get w) (hρ : ∀ x ∈ o.op.operands.toList, VRel μ (ρ x) (ρ' x)) (h : aread P T ρ o H = some v) :
    ∃ v', (execOp ρ' o).run P w = .ok (.value v') w ∧ VRel μ v v' := by
  unfold aread at h
  split at h
  case h_1 x ho =>
    simp at h; subst h
    exact ⟨ρ' x, by simp [execOp, ho], hρ x (by simp [ho, Op.operands])⟩
  case h_2 x ho =>
    simp at h; subst h
    exact ⟨ρ' x, by simp [execOp, ho], hρ x (by simp [ho, Op.operands])⟩
  case h_3 c a b ho =>
    have hc := hρ c (by simp [ho, Op.operands])
    have ha := hρ a (by simp [ho, Op.operands])
    have hb := hρ b (by simp [ho, Op.operands])
    split at h
    · rename_i t ht
      rw [ht] at hc
      have hc' := hc.bool_inv
      simp at h; subst h
      cases t
      · exact ⟨ρ' b, by simp [execOp, ho, hc', asBool], hb⟩
      · exact ⟨ρ' a, by simp [execOp, ho, hc', asBool], ha⟩
    · cases h
  case h_4 t a ho =>
    have ha := hρ a (by simp [ho, Op.operands])
    split at h
    · rename_i b off i hab hti
      rw [hab] at ha
      obtain ⟨tg, hm, ha'⟩ := ha.ptr_inv
      obtain ⟨tg', v', h1, h2, h3⟩ := loadC_sim hR (hT.ty _ _ hti) h
      rw [hm] at h1; cases h1
      exact ⟨v', by simp [execOp, ho, ha', Instr.loadAt, Instr.sureAddr, h2], h3⟩
    · cases h
  case h_5 x ho =>
    have hx := hρ x (by simp [ho, Op.operands])
    split at h
    · rename_i a hxa
      simp at h; subst h
      rw [hxa] at hx
      generalize hx' : ρ' x = x' at hx
      cases hx with
      | ptr b off t hm => exact ⟨_, by simp [execOp, ho, hx'], .ptr b off t hm⟩
    · rename_i f fi ca hxa
      simp at h; subst h
      rw [hxa] at hx
      generalize hx' : ρ' x = x' at hx
      cases hx with
      | func _ _ _ a' c' h1 h2 => exact ⟨_, by simp [execOp, ho, hx'], .func _ _ _ _ _ h1 h2⟩
    · rename_i f fi ca hxa
      simp at h; subst h
      rw [hxa] at hx
      generalize hx' : ρ' x = x' at hx
      cases hx with
      | yield b t hm => exact ⟨_, by simp [execOp, ho, hx'], .yield _ _ hm⟩
    · rename_i t u hxa
      simp at h; subst h
      rw [hxa] at hx
      generalize hx' : ρ' x = x' at hx
      cases hx with
      | iface _ _ v' h1 => exact ⟨_, by simp [execOp, ho, hx'], .iface _ _ _ h1⟩
    · cases h
  case h_6 s x f ho =>
    have hx := hρ x (by simp [ho, Op.operands])
    split at h
    · rename_i fs _ _ _ _ fields hty
      have hi := hT.ty _ _ hty
      have hu := r_underlying w hi
      have hf := tinfo_fields hi (fs := fs) rfl
      have hft := tinfo_ftypes hi (fs := fs) rfl w
      simp only at hu hf
      split at h
      · rename_i off sz hfs
        cases hz : Nat.beq sz 0 with
        | true => simp [hz] at h
        | false =>
          simp only [hz, cond_false] at h
          have hsz : sz ≠ 0 := by intro e; subst e; simp [Tr.beq_eq] at hz
          rw [hf] at hfs
          simp only [List.getElem?_map, Option.map_eq_some_iff] at hfs
          obtain ⟨fd, hfd, hpair⟩ := hfs
          simp only [Prod.mk.injEq] at hpair
          obtain ⟨rfl, rfl⟩ := hpair
          have hfd' : fs[f]? = some fd := by simpa using hfd
          have hsize := hft fd (List.mem_of_getElem? hfd)
          unfold addOff at h
          split at h
          · rename_i b off hxb
            simp at h; subst h
            rw [hxb] at hx
            obtain ⟨tg, hm, hx'⟩ := hx.ptr_inv
            refine ⟨.pointer (some ⟨tg.cb, tg.off + (off + fd.offset), none⟩), ?_, .ptr _ _ _ hm⟩
            simp [execOp, ho, Instr.fieldAt, hu, hfd', hx', Instr.sureAddr, fieldPlace, hsize, hsz, Addr.add_lit, Nat.add_assoc]
          · cases h
      · cases h
    · cases h
  case h_7 t x f ho =>
    have hx := hρ x (by simp [ho, Op.operands])
    split at h
    · rename_i fs _ _ _ _ _ cs hty hxa
      have hu := r_underlying w (hT.ty _ _ hty)
      simp only at hu
      split at h
      · rename_i fd hfd
        split at h
        · rename_i i hfi
          rw [hxa] at hx
          generalize hx' : ρ' x = x' at hx
          cases hx with
          | agg _ cs' hcs =>
            obtain ⟨v', k1, k2⟩ := partC_sim (w := w) (hT.ty _ _ hfi) hcs h
            exact ⟨v', by simp at k1; simp [execOp, ho, Instr.field, hu, hfd, hx', asAgg, k1], k2⟩
        · cases h
      · cases h
    · cases h
  case h_8 t x ix ho =>
    have hx := hρ x (by simp [ho, Op.operands])
    have hix := hρ ix (by simp [ho, Op.operands])
    split at h
    · rename_i e _ _ _ _ _ b off len cap k n hty hxa hia
      have hu := r_underlying w (hT.ty _ _ hty)
      simp only at hu
      split at h
      · rename_i i hti
        have hs := r_sizeOf w (hT.ty _ _ hti)
        split at h
        · rename_i hc
          simp at h; subst h
          rw [hxa] at hx
          rw [hia] at hix
          have hix' := hix.int_inv
          generalize hx' : ρ' x = x' at hx
          cases hx with
          | sliceZ _ a' => omega
          | slice _ _ tg _ _ cc hm hl hcc hr =>
            refine ⟨.pointer (some ⟨tg.cb, tg.off + (off + n.toNat * i.size), none⟩), ?_, .ptr _ _ _ hm⟩
            simp [execOp, ho, Instr.indexAt, asIntOf, hix', hu, hx', hc, hs, Addr.add_lit, Nat.add_assoc]
        · cases h
      · cases h
    · rename_i len e _ _ _ _ _ b off k n hty hxa hia
      have hu := r_underlying w (hT.ty _ _ hty)
      simp only at hu
      split at h
      · rename_i i hti
        have hs := r_sizeOf w (hT.ty _ _ hti)
        split at h
        · rename_i hc
          simp at h; subst h
          rw [hxa] at hx
          rw [hia] at hix
          have hix' := hix.int_inv
          obtain ⟨tg, hm, hx'⟩ := hx.ptr_inv
          refine ⟨.pointer (some ⟨tg.cb, tg.off + (off + n.toNat * i.size), none⟩), ?_, .ptr _ _ _ hm⟩
          simp [execOp, ho, Instr.indexAt, asIntOf, hix', hu, hx', Instr.sureAddr, hc, hs, Addr.add_lit, Nat.add_assoc]
        · cases h
      · cases h
    · cases h
  case h_9 t x ix ho =>
    have hx := hρ x (by simp [ho, Op.operands])
    have hix := hρ ix (by simp [ho, Op.operands])
    split at h
    · rename_i len e _ _ _ _ _ cs k n hty hxa hia
      have hu := r_underlying w (hT.ty _ _ hty)
      simp only at hu
      split at h
      · rename_i i hti
        have hs := r_sizeOf w (hT.ty _ _ hti)
        split at h
        · rename_i hc
          rw [hxa] at hx
          rw [hia] at hix
          have hix' := hix.int_inv
          generalize hx' : ρ' x = x' at hx
          cases hx with
          | agg _ cs' hcs =>
            obtain ⟨v', k1, k2⟩ := partC_sim (w := w) (hT.ty _ _ hti) hcs h
            exact ⟨v', by simp at k1; simp [execOp, ho, Instr.index, asIntOf, hix', hu, hx', hc, hs, k1], k2⟩
        · cases h
      · cases h
    · rename_i _ _ _ _ _ s k n hty hxa hia
      have hu := r_underlying w (hT.ty _ _ hty)
      simp only at hu
      split at h
      · rename_i hc
        split at h
        · rename_i b hb
          simp at h; subst h
          rw [hxa] at hx
          rw [hia] at hix
          have hix' := hix.int_inv
          have hx' := hx.str_inv
          have hlt : n.toNat < s.size := by
            have := (List.getElem?_eq_some_iff.1 hb).1
            simpa using this
          have hb' : s[n.toNat]? = some b := by
            have e : s[n.toNat]? = some s[n.toNat] := by simp [hlt]
            rw [e]
            have : s.data.toList[n.toNat]? = some s[n.toNat] := by
              rw [Array.getElem?_toList]
              have h1 : n.toNat < s.data.size := hlt
              rw [Array.getElem?_eq_getElem h1]; rfl
            rw [this] at hb
            exact hb
          exact ⟨_, by simp [execOp, ho, Instr.index, asIntOf, hix', hu, hx', hc, hb'], .int _ _⟩
        · cases h
      · cases h
    · cases h
  case h_10 t parts ho =>
    obtain ⟨v', k1, k2⟩ := fillBuild_sim (w := w) hT (ρ' := ρ') (fun p hp => hρ p.2 (by simp [ho, Op.operands]; exact ⟨p.1, by simpa using hp⟩)) h
    exact ⟨v', by simp [execOp, ho, k1], k2⟩
  case h_11 op t x y u ho =>
    have hx := hρ x (by simp [ho, Op.operands])
    have hy := hρ y (by simp [ho, Op.operands])
    split at h
    · rename_i k a k' b hxa hya
      rw [hxa] at hx
      rw [hya] at hy
      refine ⟨v, intOp_sim ho hx.int_inv hy.int_inv h, ?_⟩
      apply flat_refl
      unfold intOp at h
      split at h <;> (repeat' (split at h)) <;> first
        | (cases h; done)
        | (simp at h; subst h; rfl)
    · split at h
      · rename_i s hs
        split at h
        · rename_i b hb
          simp at h; subst h
          exact ⟨_, eqC_sim hT.ty ho hs hx hy hb, .bool _⟩
        · exact flatRun_sim hρ h (.inl ⟨_, _, _, _, _, ho⟩)
      · exact flatRun_sim hρ h (.inl ⟨_, _, _, _, _, ho⟩)
  case h_12 src dst x ho =>
    have hx := hρ x (by simp [ho, Op.operands])
    unfold descOf at h
    split at h
    · rename_i e a n c hsrc hdst hxa
      cases hq1 : T.ty src with
      | none => simp [hq1] at hsrc
      | some i1 =>
      cases hq2 : T.ty dst with
      | none => simp [hq2] at hdst
      | some i2 =>
      simp only [hq1, hq2, Option.map_some, Option.some.injEq] at hsrc hdst
      have hu1 := tinfo_desc (hT.ty _ _ hq1)
      have hu2 := tinfo_desc (hT.ty _ _ hq2)
      rw [hsrc] at hu1
      rw [hdst] at hu2
      split at h
      · rename_i hel
        cases hq3 : T.ty e with
        | none => simp [hq3] at hel
        | some i3 =>
        simp only [hq3, Option.map_some, Option.some.injEq] at hel
        have hu3 := tinfo_desc (hT.ty _ _ hq3)
        rw [hel] at hu3
        rw [hxa] at hx
        split at h
        · split at h
          · rename_i hnc
            obtain ⟨rfl, rfl⟩ := hnc
            simp at h; subst h
            generalize hx' : ρ' x = x' at hx
            cases hx
            refine ⟨.string .empty, ?_, .string _⟩
            simp [execOp, ho, hx', run_convert_bytes_string w src dst e _ _ _ hu1 hu3 hu2, Conv.bytesToString]
          · cases h
        · split at h
          · rename_i l hl
            cases hbs : bytesOf? l with
            | none => simp [hbs] at h
            | some bs =>
              simp only [hbs, Option.map_some, Option.some.injEq] at h
              subst h
              obtain ⟨l', k1, k2, k3⟩ := headCells_sim (P := P) hR hx hl
              have hl' : l' = bs.map fun b => .int .u8 (b.toNat : Int) := bytes_rel bs (by rw [← bytesOf_inv hbs]; exact k2)
              rcases k3 with ⟨a', len', cap', hx', hrun⟩ | ⟨h1, _⟩
              · have hlen : len' = n := by
                  rw [hx'] at hx
                  cases hx <;> rfl
                subst hlen
                have hrun := hrun w rfl
                rw [hl'] at hrun
                refine ⟨_, ?_, .string _⟩
                have hb := run_bytesToString (P := P) w a' len' cap' (bs.map fun b => (b.toNat : Int)) (by rw [hrun]; simp)
                rw [foldl_push] at hb
                simp [execOp, ho, hx', run_convert_bytes_string w src dst e _ _ _ hu1 hu3 hu2, hb]
              · cases h1
          · cases h
      · cases h
    · rename_i d k kk n hsrc hdst hxa
      cases hq1 : T.ty src with
      | none => simp [hq1] at hsrc
      | some i1 =>
      cases hq2 : T.ty dst with
      | none => simp [hq2] at hdst
      | some i2 =>
      simp only [hq2, Option.map_some, Option.some.injEq] at hdst
      have hu1 := r_underlying w (hT.ty _ _ hq1)
      have hu2 := r_underlying w (hT.ty _ _ hq2)
      rw [hxa] at hx
      simp at h; subst h
      refine ⟨.int k (k.wrap n), ?_, .int _ _⟩
      have : (convert src dst (.int kk n)).run P w = .ok (.int k (k.wrap n)) w := by
        simp only [convert, Sem.run_bind, hu1, hu2, Result.andThen_ok, hdst]
        rfl
      simp [execOp, ho, hx.int_inv, this]
    · exact flatRun_sim hρ h (.inr (.inr (.inl ⟨_, _, _, ho⟩)))
  case h_13 t x ho =>
    have hx := hρ x (by simp [ho, Op.operands])
    unfold descOf at h
    cases hq : T.ty t with
    | none => simp [hq] at h
    | some i =>
      have hu := r_underlying w (hT.ty _ _ hq)
      simp only [hq, Option.map_some] at h
      split at h
      · cases h
      · rename_i d hne hd
        simp at h; subst h
        refine ⟨.iface t (ρ' x), ?_, .iface _ _ _ hx⟩
        have : (Instr.makeInterface t (ρ' x)).run P w = .ok (.iface t (ρ' x)) w := by
          simp only [Instr.makeInterface, Sem.run_bind, hu, Result.andThen_ok]
          simp only [Option.some.injEq] at hd
          cases hdd : i.desc <;> first | rfl | exact (hne _ (hd.symm.trans hdd)).elim
        simp [execOp, ho, this]
      · cases h
  case h_14 fn first captured ho =>
    split at h
    · rename_i f
      simp at h; subst h
      refine ⟨.func (.func f) (first.map ρ') (captured.map ρ'), by simp [execOp, ho, Instr.makeFunc], .func _ _ _ _ _ ?_ ?_⟩
      · simp only [Array.toList_map]; exact VRels.map_mem fun x hx => hρ x (by simp [ho, Op.operands]; left; simpa using hx)
      · simp only [Array.toList_map]; exact VRels.map_mem fun x hx => hρ x (by simp [ho, Op.operands]; right; simpa using hx)
    · cases h
  case h_15 t x lo hi mx ho =>
    have hx := hρ x (by simp [ho, Op.operands])
    obtain ⟨v', k1, k2⟩ := sliceC_sim (P := P) (w := w) hT.ty (ρ' := ρ') hx (fun y hy => hρ y (by simp [ho, Op.operands, hy])) (fun y hy => hρ y (by simp [ho, Op.operands, hy])) (fun y hy => hρ y (by simp [ho, Op.operands, hy])) hR h
    exact ⟨v', by simp [execOp, ho, k1], k2⟩
  case h_16 t x k ok ho =>
    have hx := hρ x (by simp [ho, Op.operands])
    have hk := hρ k (by simp [ho, Op.operands])
    obtain ⟨v', k1, k2⟩ := lookupC_sim hT hR hx hk h
    exact ⟨v', by simp [execOp, ho, k1], k2⟩
  case h_17 t i ho =>
    have hx := hρ t (by simp [ho, Op.operands])
    split at h
    · rename_i vs hvs
      rw [hvs] at hx
      generalize hx' : ρ' t = x' at hx
      cases hx with
      | tuple _ vs' hv =>
        obtain ⟨v', k1, k2⟩ := hv.get i v h
        have : vs'[i]? = some v' := by simpa using k1
        exact ⟨v', by simp [execOp, ho, hx', Instr.extract, this], k2⟩
    · cases h
  case h_18 x xt t ok ho =>
    have hx := hρ x (by simp [ho, Op.operands])
    unfold descOf at h
    cases hq : T.ty t with
    | none => simp [hq] at h
    | some i =>
      have hu := r_underlying w (hT.ty _ _ hq)
      simp only [hq, Option.map_some] at h
      split at h
      · cases h
      · rename_i d t' u hne hd hxa
        split at h
        · rename_i htt; subst htt
          simp at h
          rw [hxa] at hx
          generalize hx' : ρ' x = x' at hx
          cases hx with
          | iface _ _ u' hu' =>
            refine ⟨if ok then .tuple #[u', .bool true] else u', ?_, ?_⟩
            · have : (Instr.typeAssert (.iface t' u') xt t' ok).run P w = .ok (if ok then .tuple #[u', .bool true] else u') w := by
                simp only [Instr.typeAssert, Sem.run_bind, hu, Result.andThen_ok]
                simp only [Option.some.injEq] at hd
                cases hdd : i.desc <;> first | (simp; done) | exact (hne _ (hd.symm.trans hdd)).elim
              simp [execOp, ho, hx', this]
            · subst h
              cases ok
              · exact hu'
              · exact .tuple _ _ (.cons _ _ _ _ hu' (.cons _ _ _ _ (.bool _) .nil))
        · cases h
      · cases h
  case h_19 c ho =>
    split at h
    · rename_i t x hc ht hx0
      have hx := hρ x (by simp [ho, Op.operands, Call.operands, hc]; exact Array.mem_of_getElem? hx0)
      obtain ⟨k1, k2⟩ := lenC_sim (w := w) hT hR (ts := c.argTypes) (args := c.args.map ρ') (ty := o.type) hx ht (by simp [hx0]) h
      exact ⟨v, by simp [execOp, ho, resolve, hc, invoke, builtin, k1], k2⟩
    · rename_i t x hc ht hx0
      have hx := hρ x (by simp [ho, Op.operands, Call.operands, hc]; exact Array.mem_of_getElem? hx0)
      unfold descOf at h
      cases hq : T.ty t with
      | none => simp [hq] at h
      | some i =>
        have hu := r_underlying w (hT.ty _ _ hq)
        simp only [hq, Option.map_some] at h
        have ha : (c.args.map ρ')[0]? = some (ρ' x) := by simp [hx0]
        split at h
        · rename_i e hd hxa
          simp only [Option.some.injEq] at hd
          simp at h; subst h
          rw [hxa] at hx
          generalize hx' : ρ' x = x' at hx ha
          cases hx
          have : (Builtin.cap_ c.argTypes o.type (c.args.map ρ')).run P w = .ok (goInt 0) w := by simp [Builtin.cap_, ht, ha, hu, hd]
          exact ⟨goInt _, by simp [execOp, ho, resolve, hc, invoke, builtin, this], .int _ _⟩
        · rename_i n e hd
          simp only [Option.some.injEq] at hd
          simp at h; subst h
          have : (Builtin.cap_ c.argTypes o.type (c.args.map ρ')).run P w = .ok (goInt n) w := by simp [Builtin.cap_, ht, ha, hu, hd]
          exact ⟨goInt _, by simp [execOp, ho, resolve, hc, invoke, builtin, this], .int _ _⟩
        · cases h
    · rename_i hc
      exact flatRun_sim hρ h (.inr (.inr (.inr ⟨_, _, ho, hc⟩)))
    · rename_i hc
      exact flatRun_sim hρ h (.inr (.inr (.inr ⟨_, _, ho, hc⟩)))
    · cases h
  case h_20 op t x ho =>
    have hx := hρ x (by simp [ho, Op.operands])
    split at h
    · rename_i b hxb
      simp at h; subst h
      rw [hxb] at hx
      exact ⟨_, by simp [execOp, ho, hx.bool_inv, Op.unary], .bool _⟩
    · exact flatRun_sim hρ h (.inr (.inl ⟨_, _, _, ho⟩))
  case h_21 => cases h

end
end Go.Ab
end
section
namespace Go.Ab

section
variable {P : Program} {T : Tab} {ng : Nat} {μ : Inj} {H : Heap} {w : World} {ρ ρ' : Operand → Value} {o : Oper}

theorem range_rep (z : Array Value) : ∀ n, (List.range (n * z.size)).map (fun i => z[i % z.size]!) = rep z.toList n
  | 0 => by simp [rep]
  | n + 1 => by
    have e : (n + 1) * z.size = z.size + n * z.size := by rw [Nat.succ_mul, Nat.add_comm]
    rw [e, List.range_add, List.map_append, List.map_map, rep, ← range_rep z n]
    congr 1
    · apply List.ext_getElem?
      intro i
      by_cases hi : i < z.size
      · simp [hi, Nat.mod_eq_of_lt hi]
      · simp [hi]
    · apply List.map_congr_left
      intro i _
      simp

theorem frozenIn_00 (i : Nat) : frozenIn (0, 0) i = false := by simp [frozenIn]

theorem cells_new {esz : Nat} {arr : Array Value} {c : List Value} {e : TypeId} {t : Tgt} (ht : t = ⟨w.heap.size, 0, esz, arr.size⟩) (hc : VRels μ c arr.toList) {μ' : Inj} (hμ : μ.Le μ') :
    ORel ng μ' t (.cells true esz c) (.cells arr e) := by
  subst ht
  have hl := hc.length
  refine ⟨arr, e, (0, 0), rfl, rfl, by simp, by simp at hl; simp [hl], fun i v hv => ?_, fun _ i _ => frozenIn_00 i⟩
  obtain ⟨v', h1, h2⟩ := (hc.mono hμ).get i v hv
  exact ⟨v', by simpa using h1, h2⟩

theorem aalloc_sim (hT : T.Ok P ng) (hρ : ∀ x ∈ o.op.operands.toList, VRel μ (ρ x) (ρ' x)) {p : AObj × (Nat → Value)} (h : aalloc T ρ o = some p) :
    ∃ v' o' t, (execOp ρ' o).run P w = .ok (.value v') (w.alloc o') ∧ t.cb = w.heap.size ∧ owned p.1 = true ∧
      ∀ n, μ n = none → ORel ng (μ.add n t) t p.1 o' ∧ VRel (μ.add n t) (p.2 n) v' := by
  unfold aalloc at h
  split at h
  case h_1 t ho =>
    split at h
    · rename_i d sz by_ z ag fl hty
      split at h
      · rename_i hone
        simp at h; subst h
        have hi := hT.ty _ _ hty
        have hz := zero_rel (μ := μ) (i := _) rfl (hT.zero _ _ hty)
        refine ⟨.pointer (some ⟨w.heap.size, 0, none⟩), .cells z.cells t, ⟨w.heap.size, 0, sz, z.cells.size⟩, ?_, rfl, rfl, fun n hn => ⟨cells_new rfl hz.cells (Inj.le_add hn), ?_⟩⟩
        · simp [execOp, ho, Instr.alloc, r_zeroValue w hi rfl, newVar, newRow]
        · exact .ptr n 0 _ (Inj.add_same _ _ _)
      · cases h
    · cases h
  case h_2 t x ho =>
    have hx := hρ x (by simp [ho, Op.operands])
    split at h
    · split at h
      · rename_i hone _ i hty
        simp at h; subst h
        refine ⟨.pointer (some ⟨w.heap.size, 0, none⟩), .cells (ρ' x).cells t, ⟨w.heap.size, 0, i.size, (ρ' x).cells.size⟩, ?_, rfl, rfl, fun n hn => ⟨cells_new rfl hx.cells (Inj.le_add hn), ?_⟩⟩
        · simp [execOp, ho, Instr.box, newVar, newRow]
        · exact .ptr n 0 _ (Inj.add_same _ _ _)
      · cases h
    · cases h
  case h_3 t len parts ho =>
    split at h
    · rename_i e _ _ _ _ _ hty
      have hu := r_underlying w (hT.ty _ _ hty)
      simp only at hu
      split at h
      · rename_i i hti
        have hi := hT.ty _ _ hti
        split at h
        · rename_i hlen
          split at h
          · rename_i z hz0
            split at h
            · rename_i hzs
              split at h
              · rename_i cs hcs
                split at h
                · rename_i hone
                  simp at h; subst h
                  have hz := zero_rel (μ := μ) hz0 (hT.zero _ _ hti)
                  have hzsize : z.cells.size = i.size := by simpa using hzs
                  have e1 : (parts.toList.map fun p => (p.1, ρ p.2)).map (·.1) = (parts.toList.map fun p => (p.1, ρ' p.2)).map (·.1) := by simp
                  have e2 : VRels μ ((parts.toList.map fun p => (p.1, ρ p.2)).map (·.2)) ((parts.toList.map fun p => (p.1, ρ' p.2)).map (·.2)) := by
                    simp only [List.map_map]; exact VRels.map_mem fun p hp => hρ p.2 (by simp [ho, Op.operands]; exact ⟨p.1, by simpa using hp⟩)
                  have e3 : ((Array.range (len * i.size)).map (fun k => z.cells[k % z.cells.size]!)).toList = rep z.cells.toList len := by
                    rw [← range_rep]; simp [hzsize]
                  obtain ⟨l', k1, k2⟩ := fillL_sim (place := fun k => some (k * i.size, i.size)) (c' := (Array.range (len * i.size)).map (fun k => z.cells[k % z.cells.size]!)) e1 e2 (by rw [e3]; exact hz.cells.rep len) hcs
                  have hparts : (parts.map fun (x : Nat × Operand) => match x with | (i, x) => (i, ρ' x)).toList = parts.toList.map fun p => (p.1, ρ' p.2) := by simp
                  refine ⟨.slice (some ⟨w.heap.size, 0, none⟩) len len, .cells l' e, ⟨w.heap.size, 0, i.size, l'.size⟩, ?_, rfl, rfl, fun n hn => ⟨cells_new rfl k2 (Inj.le_add hn), ?_⟩⟩
                  · have hbs : (Instr.buildSlice t len (parts.map fun (x : Nat × Operand) => match x with | (i, x) => (i, ρ' x))).run P w = .ok (.slice (some ⟨w.heap.size, 0, none⟩) len len) (w.alloc (.cells l' e)) := by
                      simp only [Instr.buildSlice, Sem.run_bind, hu, r_sizeOf w hi, Result.andThen_ok, if_neg (Nat.not_lt.2 hlen)]
                      by_cases h0 : len * i.size = 0
                      · have hmap : (Array.map (fun (k : Nat) => (#[] : Array Value)[k % (#[] : Array Value).size]!) (Array.range (len * i.size))) = (Array.range (len * i.size)).map (fun k => z.cells[k % z.cells.size]!) := by simp [h0]
                        simp only [if_pos h0, Sem.run_bind, Sem.run_pure, Result.andThen_ok, hmap, hparts, k1]
                        rfl
                      · simp only [if_neg h0, Sem.run_bind, Sem.run_pure, Result.andThen_ok, r_zeroValue w hi hz0, hparts, k1]
                        rfl
                    simp [execOp, ho, hbs]
                  · exact .slice n 0 _ _ _ _ (Inj.add_same _ _ _) (Nat.le_refl _) (Nat.le_refl _) (.inl rfl)
                · cases h
              · cases h
            · cases h
          · cases h
        · cases h
      · cases h
    · cases h
  case h_4 t l c ho =>
    have hl := hρ l (by simp [ho, Op.operands])
    have hc := hρ c (by simp [ho, Op.operands])
    split at h
    · rename_i e _ _ _ _ _ kl nl kc nc hty hla hca
      have hu := r_underlying w (hT.ty _ _ hty)
      simp only at hu
      rw [hla] at hl
      rw [hca] at hc
      have hl' := hl.int_inv
      have hc' := hc.int_inv
      split at h
      · rename_i i hti
        have hi := hT.ty _ _ hti
        obtain ⟨inf, hinf, hby, hsz⟩ := r_typeInfo_bytes w hi
        split at h
        · rename_i z hz0
          split at h
          · rename_i hcond
            obtain ⟨c1, c2, c3, c4, c5, c6⟩ := hcond
            simp at h; subst h
            have hz := zero_rel (μ := μ) hz0 (hT.zero _ _ hti)
            have hzsize : z.cells.size = i.size := by simpa using c5
            have wl : IntKind.i64.wrap nl = nl := by simp [IntKind.wrap, IntKind.bits, IntKind.signed]; omega
            have wc : IntKind.i64.wrap nc = nc := by simp [IntKind.wrap, IntKind.bits, IntKind.signed]; omega
            have e3 : ((Array.range (nc.toNat * i.size)).map (fun k => z.cells[k % z.cells.size]!)).toList = rep z.cells.toList nc.toNat := by
              rw [← range_rep]; simp [hzsize]
            have hrel : VRels μ (rep z.cells.toList nc.toNat) ((Array.range (nc.toNat * i.size)).map (fun k => z.cells[k % z.cells.size]!)).toList := by rw [e3]; exact hz.cells.rep _
            refine ⟨.slice (some ⟨w.heap.size, 0, none⟩) nl.toNat nc.toNat, .cells ((Array.range (nc.toNat * i.size)).map (fun k => z.cells[k % z.cells.size]!)) e,
              ⟨w.heap.size, 0, i.size, ((Array.range (nc.toNat * i.size)).map (fun k => z.cells[k % z.cells.size]!)).size⟩, ?_, rfl, rfl, fun n hn => ⟨cells_new rfl hrel (Inj.le_add hn), ?_⟩⟩
            · have hlarge : (decide (nc < 0) || decide ((inf.bytes : Int) * nc > 2 ^ 48)) = false := by
                rw [hby]
                have : (i.bytes : Int) * nc ≤ 140737488355328 := by
                  have h1 : ((i.bytes : Int) * nc) = nc * i.bytes := Int.mul_comm _ _
                  rw [h1]; exact c3
                simp; omega
              have hms : (Instr.makeSlice t (.int kl nl) (.int kc nc)).run P w = .ok (.slice (some ⟨w.heap.size, 0, none⟩) nl.toNat nc.toNat) (w.alloc (.cells ((Array.range (nc.toNat * i.size)).map (fun k => z.cells[k % z.cells.size]!)) e)) := by
                simp only [Instr.makeSlice, Sem.run_bind, hu, Result.andThen_ok, asInt, asIntOf, Sem.run_pure, hinf, wl, wc, hlarge]
                have e4 : (false = true ∨ decide (nl < 0) = true ∨ nl > nc) = False := by simp; omega
                simp only [Bool.false_or, Bool.or_eq_true, decide_eq_true_eq]
                rw [if_neg (by omega)]
                simp only [Sem.run_bind, run_askRoom, Result.andThen_ok, r_sizeOf w hi]
                by_cases h0 : nc.toNat * i.size = 0
                · have hmap : (Array.map (fun (k : Nat) => (#[] : Array Value)[k % (#[] : Array Value).size]!) (Array.range (nc.toNat * i.size))) = (Array.range (nc.toNat * i.size)).map (fun k => z.cells[k % z.cells.size]!) := by simp [h0]
                  simp only [if_pos h0, Sem.run_bind, Sem.run_pure, Result.andThen_ok, hmap]
                  rfl
                · simp only [if_neg h0, Sem.run_bind, Sem.run_pure, Result.andThen_ok, r_zeroValue w hi hz0]
                  rfl
              simp [execOp, ho, hl', hc', hms]
            · exact .slice n 0 _ _ _ _ (Inj.add_same _ _ _) (by omega) (Nat.le_refl _) (.inl rfl)
          · cases h
        · cases h
      · cases h
    · cases h
  case h_5 t r ho =>
    unfold descOf at h
    cases hq : T.ty t with
    | none => simp [hq] at h
    | some i =>
      have hu := r_underlying w (hT.ty _ _ hq)
      simp only [hq, Option.map_some] at h
      have main : ∀ r' : Option Value, (r' = none ∨ ∃ k n, r' = some (.int k n)) → (∃ a b, i.desc = .map a b) → (Instr.makeMap t r').run P w = .ok (.map (some w.heap.size)) (w.alloc (.map #[] 0)) := by
        rintro r' (rfl | ⟨k, n, rfl⟩) ⟨a, b, hd⟩
        · simp [Instr.makeMap]
        · simp [Instr.makeMap, hu, hd, asInt, asIntOf]
      have fin : ∀ n, μ n = none → ORel ng (μ.add n ⟨w.heap.size, 0, 0, 0⟩) ⟨w.heap.size, 0, 0, 0⟩ (.map [] 0) (.map #[] 0) ∧ VRel (μ.add n ⟨w.heap.size, 0, 0, 0⟩) (.map (some n)) (.map (some w.heap.size)) :=
        fun n hn => ⟨⟨#[], rfl, rfl, .nil⟩, .map n _ (Inj.add_same _ _ _)⟩
      split at h
      · rename_i a b hd hr
        simp only [Option.some.injEq] at hd
        simp at h; subst h
        have hr' : r = none := by cases r <;> simp at hr ⊢
        subst hr'
        refine ⟨_, _, _, ?_, rfl, rfl, fin⟩
        simp [execOp, ho, main none (.inl rfl) ⟨_, _, hd⟩]
      · rename_i a b k n hd hr
        simp only [Option.some.injEq] at hd
        simp at h; subst h
        cases r with
        | none => simp at hr
        | some x =>
          simp at hr
          have hx := hρ x (by simp [ho, Op.operands])
          rw [hr] at hx
          refine ⟨_, _, _, ?_, rfl, rfl, fin⟩
          simp [execOp, ho, hx.int_inv, main (some (.int k n)) (.inr ⟨_, _, rfl⟩) ⟨_, _, hd⟩]
      · cases h
  case h_6 t x ho =>
    have hx := hρ x (by simp [ho, Op.operands])
    unfold descOf at h
    cases hq : T.ty t with
    | none => simp [hq] at h
    | some i =>
      have hu := r_underlying w (hT.ty _ _ hq)
      simp only [hq, Option.map_some] at h
      split at h
      · rename_i s hd hxa
        simp only [Option.some.injEq] at hd
        simp at h; subst h
        rw [hxa] at hx
        refine ⟨.pointer (some ⟨w.heap.size, 0, none⟩), .stringIter s 0, ⟨w.heap.size, 0, 0, 0⟩, ?_, rfl, rfl, fun n hn => ⟨⟨rfl, rfl⟩, .ptr n 0 _ (Inj.add_same _ _ _)⟩⟩
        simp [execOp, ho, hx.str_inv, Instr.range, hu, hd]
      · cases h
  case h_7 => cases h

end
end Go.Ab
end
section
namespace Go.Ab

structure Dom (ng : Nat) (μ : Inj) (H : Heap) : Prop where
  ng : ng ≤ H.next
  fresh : ∀ n, H.next ≤ n → μ n = none

theorem Dom.push {ng : Nat} {μ : Inj} {H : Heap} (h : Dom ng μ H) (a : AObj) (t : Tgt) : Dom ng (μ.add H.next t) (H.push a) :=
  ⟨Nat.le_succ_of_le h.ng, fun n hn => by
    have hn' : H.next + 1 ≤ n := hn
    rw [Inj.add_other (by omega)]; exact h.fresh n (by omega)⟩
/-- new names are new -/
structure Nxt (μ : Inj) (H : Heap) (μ' : Inj) (H' : Heap) : Prop where
  le : H.next ≤ H'.next
  old : ∀ b, b < H.next → μ b = none → μ' b = none
theorem Nxt.refl (μ : Inj) (H : Heap) : Nxt μ H μ H := ⟨Nat.le_refl _, fun _ _ h => h⟩
theorem Nxt.same {μ : Inj} {H H' : Heap} (h : H'.next = H.next) : Nxt μ H μ H' := ⟨by rw [h]; exact Nat.le_refl _, fun _ _ h => h⟩
theorem Nxt.push (μ : Inj) (H : Heap) (a : AObj) (t : Tgt) : Nxt μ H (μ.add H.next t) (H.push a) :=
  ⟨Nat.le_succ _, fun b hb h => by rw [Inj.add_other (by omega)]; exact h⟩
theorem Nxt.trans {μ μ' μ'' : Inj} {H H' H'' : Heap} (h : Nxt μ H μ' H') (h' : Nxt μ' H' μ'' H'') : Nxt μ H μ'' H'' :=
  ⟨Nat.le_trans h.le h'.le, fun b hb hm => h'.old b (Nat.lt_of_lt_of_le hb h.le) (h.old b hb hm)⟩
theorem Dom.put {ng : Nat} {μ : Inj} {H : Heap} (h : Dom ng μ H) (b : Nat) (a : AObj) : Dom ng μ (H.put b a) := ⟨h.ng, h.fresh⟩

section
variable {P : Program} {T : Tab} {ng : Nat} {μ : Inj} {H : Heap} {w : World} {ρ ρ' : Operand → Value} {o : Oper}

theorem Rel.congr {g g' : Nat → AObj} (h : Rel ng μ g w) (e : ∀ b, g' b = g b) : Rel ng μ g' w := h.less fun b => .inl (e b)
theorem Goes.less {g g' : Nat → AObj} (h : Rel ng μ g w) (hl : ∀ b, g' b = g b ∨ g' b = .dead) : Goes ng μ g w μ g' w :=
  ⟨.refl _, h.less hl, Nat.le_refl _, fun _ _ _ => rfl, fun k _ ⟨b, t, h1, h2, h3⟩ => ⟨b, t, by
    rcases hl b with e | e
    · rw [← e]; exact h1
    · rw [e] at h1; simp [owned] at h1, h2, h3⟩, fun b h1 _ => ((hl b).resolve_right h1).symm, .refl _⟩
theorem Goes.of_eq {g g' : Nat → AObj} (h : Rel ng μ g w) (e : ∀ b, g' b = g b) : Goes ng μ g w μ g' w :=
  ⟨.refl _, h.congr e, Nat.le_refl _, fun _ _ _ => rfl, fun k _ ⟨b, t, h1, h2, h3⟩ => ⟨b, t, by rw [← e b]; exact h1, h2, h3⟩, fun b _ _ => (e b).symm, .refl _⟩

theorem frozen_at {cb k : Nat} {arr : Array Value} {e : TypeId} {fr : Nat × Nat} (h : w.heap[cb]? = some (.cells arr e fr)) : w.frozen? ⟨cb, k, none⟩ = frozenIn fr k := by
  simp [World.frozen?, h, frozenIn]

theorem setB_self {cb : Nat} {ob : Obj} (h : w.heap[cb]? = some ob) : setB w cb ob = w := by
  have : w.heap.setIfInBounds cb ob = w.heap := by
    apply Array.ext_getElem?
    intro i
    by_cases hi : i = cb
    · subst hi
      have hlt := (Array.getElem?_eq_some_iff.1 h).1
      rw [h]; simp [hlt]
    · rw [Array.getElem?_setIfInBounds_ne (fun e => hi e.symm)]
  simp [setB, this]

theorem setCell_eq {cb k : Nat} {arr : Array Value} {e : TypeId} {fr : Nat × Nat} {v : Value} (h : w.heap[cb]? = some (.cells arr e fr)) : w.setCell ⟨cb, k, none⟩ v = setB w cb (.cells (arr.setIfInBounds k v) e fr) := by
  unfold World.setCell setB
  congr 1
  apply Array.ext_getElem?
  intro i
  rw [Array.getElem?_modify]
  by_cases hi : i = cb
  · subst hi
    have hlt := (Array.getElem?_eq_some_iff.1 h).1
    rw [if_pos rfl, h]; simp [hlt]
  · rw [if_neg (fun e => hi e.symm), Array.getElem?_setIfInBounds_ne (fun e => hi e.symm)]

theorem oneCell_eq (v : Value) : v.oneCell' = oneCell v := by cases v <;> rfl

theorem run_storeSeg {cb p : Nat} {e : TypeId} {fr : Nat × Nat} : ∀ (vs : List Value) (i : Nat) (arr : Array Value) (w : World), w.heap[cb]? = some (.cells arr e fr) → (∀ j, j < arr.size → frozenIn fr j = false) → p + i + vs.length ≤ arr.size →
    vs.all oneCell = true → (storeCells ⟨cb, p, none⟩ vs i).run P w = .ok () (setB w cb (.cells (setSeg arr.toList (p + i) vs).toArray e fr))
  | [], i, arr, w, h, _, _, _ => by simp [storeCells, setSeg, setB_self h]
  | v :: vs, i, arr, w, h, hf, hn, h1 => by
    simp only [List.all_cons, Bool.and_eq_true] at h1
    simp only [List.length_cons] at hn
    have hc : w.cell? ⟨cb, p + i, none⟩ = some arr[p + i] := by rw [cell_at h]; simp [show p + i < arr.size by omega]
    have hfr : w.frozen? ⟨cb, p + i, none⟩ = false := by rw [frozen_at h]; exact hf _ (by omega)
    have hlt := (Array.getElem?_eq_some_iff.1 h).1
    simp only [storeCells, Sem.run_bind, Addr.add_lit, run_store P w _ v _ (by rw [oneCell_eq]; exact h1.1), hc, hfr, Bool.false_eq_true, if_false, Result.andThen_ok, setCell_eq h]
    rw [run_storeSeg (e := e) (fr := fr) vs (i + 1) (arr.setIfInBounds (p + i) v) (setB w cb (.cells (arr.setIfInBounds (p + i) v) e fr)) (by simp [hlt]) (by simpa using hf) (by simp; omega) h1.2]
    simp [setB, setSeg, Nat.add_assoc]

/-- what is written into a block of one's own -/
theorem write_cells (hR : Rel ng μ H.get w) {b esz off : Nat} {c vs vs' : List Value} (hb : H.get b = .cells true esz c) (hvs : VRels μ vs vs') (hone : vs.all oneCell = true) (hn : off + vs.length ≤ c.length) :
    ∃ t w', μ b = some t ∧ (storeCells ⟨t.cb, t.off + off, none⟩ vs').run P w = .ok () w' ∧ Goes ng μ H.get w μ (H.put b (.cells true esz (setSeg c off vs))).get w' := by
  obtain ⟨t, arr, e, fr, h1, h2, h3, h4, h5, h6, h7⟩ := hR.cells hb
  have hlen := hvs.length
  refine ⟨t, setB w t.cb (.cells (setSeg arr.toList (t.off + off) vs').toArray e fr), h1, ?_, ?_⟩
  · have := run_storeSeg (P := P) (cb := t.cb) (p := t.off + off) vs' 0 arr w h2 (h7 rfl) (by omega) (by rw [hvs.oneCells]; exact hone)
    simpa using this
  · refine hR.write (w' := setB w t.cb (.cells (setSeg arr.toList (t.off + off) vs').toArray e fr)) (b := b) (a := .cells true esz (setSeg c off vs)) (o := .cells (setSeg arr.toList (t.off + off) vs').toArray e fr) (by rw [hb]; rfl) h1 rfl ⟨rfl, rfl, rfl⟩ ?_ rfl (H.put b (.cells true esz (setSeg c off vs))).get (fun j => by rw [Heap.get_put])
    refine ⟨_, e, fr, rfl, h3, by simp [length_setSeg]; exact h4, by rw [length_setSeg]; exact h5, ?_, fun _ i hi => h7 rfl i (by simpa [length_setSeg] using hi)⟩
    intro i v hv
    rw [get_setSeg vs c off i hn] at hv
    have hi : i < c.length := by
      split at hv
      · omega
      · exact (List.getElem?_eq_some_iff.1 hv).1
    have hg : (setSeg arr.toList (t.off + off) vs').toArray[t.off + i]? = if t.off + off ≤ t.off + i ∧ t.off + i < t.off + off + vs'.length then vs'[t.off + i - (t.off + off)]? else arr.toList[t.off + i]? := by
      rw [List.getElem?_toArray, get_setSeg vs' arr.toList (t.off + off) (t.off + i) (by simp; omega)]
    rw [hg]
    split at hv
    · rename_i hc
      rw [if_pos (by omega)]
      obtain ⟨v', k1, k2⟩ := hvs.get _ _ hv
      exact ⟨v', by rw [show t.off + i - (t.off + off) = i - off by omega]; exact k1, k2⟩
    · rename_i hc
      rw [if_neg (by omega)]
      obtain ⟨v', k1, k2⟩ := h6.get _ _ hv
      rw [List.getElem?_take, if_pos hi, List.getElem?_drop] at k1
      exact ⟨v', k1, k2⟩

theorem storeC_sim (hR : Rel ng μ H.get w) {t : TypeId} {i : TInfo} {b off : Nat} {v v' : Value} {H' : Heap} (ht : tinfo P t = some i) (hv : VRel μ v v') (h : storeC H i b off v = some H') :
    ∃ tg w', μ b = some tg ∧ (storeVar t ⟨tg.cb, tg.off + off, none⟩ v').run P w = .ok () w' ∧ Goes ng μ H.get w μ H'.get w' ∧ H'.next = H.next := by
  unfold storeC at h
  split at h
  · rename_i esz c hb
    split at h
    · rename_i hc
      obtain ⟨c1, c2, c3⟩ := hc
      simp at h; subst h
      obtain ⟨tg, w', k1, k2, k3⟩ := write_cells (P := P) hR hb hv.cells c2 (by rw [c1]; exact c3)
      refine ⟨tg, w', k1, ?_, k3, rfl⟩
      have hlen := hv.cells.length
      have hsz : v'.cells.size = i.size := by simp at hlen c1; omega
      simp [storeVar, r_sizeOf w ht, hsz, k2]
    · cases h
  · cases h

/-! ### append -/
theorem newsSlice_sim {n : Nat} {sz : Nat} {x x' : Value} {l : List Value} (hR : Rel ng μ H.get w) (hx : VRel μ x x') (hs : ∃ a m c, x = .slice a m c) (h : headCells H (n * sz) x = some l) :
    ∃ l', l.length = n * sz ∧ VRels μ l l' ∧ ∀ w1 : World, w1.heap = w.heap → (Builtin.firstCells sz n x').run P w1 = .ok l'.toArray w1 := by
  obtain ⟨l', k1, k2, k3⟩ := headCells_sim (P := P) hR hx h
  refine ⟨l', k1, k2, fun w1 hw1 => ?_⟩
  rcases k3 with ⟨a, len, cap, rfl, hrun⟩ | ⟨rfl, rfl, hn, rfl⟩
  · exact hrun w1 hw1
  · rfl

end
end Go.Ab
end
section
namespace Go.Ab

section
variable {P : Program} {T : Tab} {ng : Nat} {μ : Inj} {H : Heap} {w : World} {ρ ρ' : Operand → Value} {o : Oper}


section raw
variable {ts : Array TypeId} {ty t0 t1 e : TypeId} {inf : TypeInfo} {d1 : TypeDesc} {z x : Value} {sLen sCap n : Nat} {base : Option Addr} {nw old : List Value}
  (ht0 : ts[0]? = some t0) (ht1 : ts[1]? = some t1) (h0 : P.underlying t0 = some (.slice e)) (hi : P.info? e = some inf) (hz : inf.zero = some z) (h1 : P.underlying t1 = some d1)
include ht0 ht1 h0 hi h1

theorem app_room (hd : (∃ u, d1 = .slice u) ∨ d1 = .string) (hn : (Builtin.lenOf x).run P w = .ok n w) (hnew : (Builtin.firstCells inf.size n x).run P w = .ok nw.toArray w) (hroom : sLen + n ≤ sCap) :
    (Builtin.append_ ts ty #[.slice base sLen sCap, x]).run P w = match base with
      | some a => ((storeCells (a.add (sLen * inf.size)) nw 0).run P w).andThen fun _ w' => .ok (.slice base (sLen + n) sCap) w'
      | none => .ok (.slice none (sLen + n) sCap) w := by
  rcases hd with ⟨u, rfl⟩ | rfl <;> cases base <;>
    simp [Builtin.append_, ht0, ht1, run_underlying h0, run_underlying h1, sizeOf, typeInfo, hi, hn, hroom, hnew]

include hz
theorem app_grow (hd : (∃ u, d1 = .slice u) ∨ d1 = .string) (hn : (Builtin.lenOf x).run P w = .ok n w) (hnew : ∀ w1 : World, w1.heap = w.heap → (Builtin.firstCells inf.size n x).run P w1 = .ok nw.toArray w1)
    (hold : ∀ w1 : World, w1.heap = w.heap → (Builtin.firstCells inf.size sLen (.slice base sLen sCap)).run P w1 = .ok old.toArray w1)
    (hgrow : sCap < sLen + n) (hby : (sLen + n) * inf.bytes ≤ 140737488355328) (hm : sLen + n < 9223372036854775807) :
    (Builtin.append_ ts ty #[.slice base sLen sCap, x]).run P w = .ok (.slice (some ⟨w.heap.size, 0, none⟩) (sLen + n) (grownCap w (sLen + n) sCap e))
        (w.drew.alloc (.cells (old.toArray ++ nw.toArray ++ Builtin.zeroCells z.cells (grownCap w (sLen + n) sCap e - (sLen + n))) e)) := by
  have hn' : ¬ (sLen + n ≤ sCap) := by omega
  have h63' : ¬ (9223372036854775807 < ((sLen : Int) + (n : Int))) := by omega
  have hfit := growslice_fits hgrow hby
  have h48' : ¬ (281474976710656 < Builtin.nextslicecap (sLen + n) sCap * inf.bytes) := by omega
  have hf := hnew w.drew rfl
  have hfo := hold w.drew rfl
  have hassoc : ∀ r : Array Value, old.toArray ++ (nw.toArray ++ r) = (old ++ nw).toArray ++ r := fun r => by apply Array.ext'; simp
  rcases hd with ⟨u, rfl⟩ | rfl <;>
    simp [Builtin.append_, ht0, ht1, run_underlying h0, run_underlying h1, sizeOf, typeInfo, zeroValue, hi, hz, hn, hn', h63', h48', Question.forced, hf, hfo, newRow, grownCap, hassoc]

theorem zappRoom (hd : ∃ u, d1 = .int u) {k : IntKind} {m : Int} (hx : x = .int k m) (h0m : 0 ≤ m) (hmb : m * inf.bytes ≤ 281474976710656) (hm63 : m < 9223372036854775808) (hzs : z.cells.size = inf.size) (hroom : sLen + m.toNat ≤ sCap) :
    (Builtin.append_ ts ty #[.slice base sLen sCap, x]).run P w = match base with
      | some a => ((storeCells (a.add (sLen * inf.size)) (rep z.cells.toList m.toNat) 0).run P w).andThen fun _ w' => .ok (.slice base (sLen + m.toNat) sCap) w'
      | none => .ok (.slice none (sLen + m.toNat) sCap) w := by
  subst hx
  have wm : IntKind.i64.wrap m = m := by simp [IntKind.wrap, IntKind.bits, IntKind.signed]; omega
  have e1 : ¬ (m < 0) := by omega
  have e2 : ¬ (281474976710656 < m * (inf.bytes : Int)) := by omega
  have e3 : (Builtin.zeroCells z.cells m.toNat).toList = rep z.cells.toList m.toNat := by
    rw [← range_rep]; simp [Builtin.zeroCells]
  have e4 : (if m.toNat * inf.size = 0 then [] else rep z.cells.toList m.toNat) = rep z.cells.toList m.toNat := by
    split
    · rename_i h; rw [← range_rep, hzs, h]; rfl
    · rfl
  obtain ⟨u, rfl⟩ := hd
  by_cases hzero : m.toNat * inf.size = 0
  · rw [if_pos hzero] at e4
    rw [← e4]
    cases base <;> simp [Builtin.append_, ht0, ht1, run_underlying h0, run_underlying h1, sizeOf, typeInfo, zeroValue, hi, hz, asInt, asIntOf, wm, e1, e2, hroom, hzero, storeCells]
  · cases base <;> simp [Builtin.append_, ht0, ht1, run_underlying h0, run_underlying h1, sizeOf, typeInfo, zeroValue, hi, hz, asInt, asIntOf, wm, e1, e2, hroom, hzero, e3]

theorem zappGrow (hd : ∃ u, d1 = .int u) {k : IntKind} {m : Int} (hx : x = .int k m) (h0m : 0 ≤ m) (hmb : m * inf.bytes ≤ 281474976710656) (hm63 : m < 9223372036854775808) (hzs : z.cells.size = inf.size)
    (hold : ∀ w1 : World, w1.heap = w.heap → (Builtin.firstCells inf.size sLen (.slice base sLen sCap)).run P w1 = .ok old.toArray w1)
    (hgrow : sCap < sLen + m.toNat) (hby : (sLen + m.toNat) * inf.bytes ≤ 140737488355328) (hm : sLen + m.toNat < 9223372036854775807) :
    (Builtin.append_ ts ty #[.slice base sLen sCap, x]).run P w = .ok (.slice (some ⟨w.heap.size, 0, none⟩) (sLen + m.toNat) (grownCap w (sLen + m.toNat) sCap e))
        (w.drew.alloc (.cells (old.toArray ++ (rep z.cells.toList m.toNat).toArray ++ Builtin.zeroCells z.cells (grownCap w (sLen + m.toNat) sCap e - (sLen + m.toNat))) e)) := by
  subst hx
  have wm : IntKind.i64.wrap m = m := by simp [IntKind.wrap, IntKind.bits, IntKind.signed]; omega
  have e1 : ¬ (m < 0) := by omega
  have e2 : ¬ (281474976710656 < m * (inf.bytes : Int)) := by omega
  have e3 : Builtin.zeroCells z.cells m.toNat = (rep z.cells.toList m.toNat).toArray := by
    apply Array.ext'
    rw [← range_rep]; simp [Builtin.zeroCells]
  have e4 : (if m.toNat * inf.size = 0 then [] else rep z.cells.toList m.toNat) = rep z.cells.toList m.toNat := by
    split
    · rename_i h; rw [← range_rep, hzs, h]; rfl
    · rfl
  have hn' : ¬ (sLen + m.toNat ≤ sCap) := by omega
  have h63' : ¬ (9223372036854775807 < ((sLen : Int) + m)) := by omega
  have h63'' : ¬ (9223372036854775807 < ((sLen : Int) + (m.toNat : Int))) := by omega
  have h63a : ¬ (9223372036854775807 < ((sLen : Int) + max m 0)) := by omega
  have hfit := growslice_fits hgrow hby
  have h48' : ¬ (281474976710656 < Builtin.nextslicecap (sLen + m.toNat) sCap * inf.bytes) := by omega
  have hfo := hold w.drew rfl
  have hassoc : ∀ r : Array Value, old.toArray ++ ((rep z.cells.toList m.toNat).toArray ++ r) = (old ++ rep z.cells.toList m.toNat).toArray ++ r := fun r => by apply Array.ext'; simp
  obtain ⟨u, rfl⟩ := hd
  by_cases hzero : m.toNat * inf.size = 0
  · rw [if_pos hzero] at e4
    rw [← e4]
    simp [Builtin.append_, ht0, ht1, run_underlying h0, run_underlying h1, sizeOf, typeInfo, zeroValue, hi, hz, asInt, asIntOf, wm, e1, e2, hn', h63', h63'', h63a, h48', Question.forced, hzero, hfo, newRow, grownCap]
  · simp [Builtin.append_, ht0, ht1, run_underlying h0, run_underlying h1, sizeOf, typeInfo, zeroValue, hi, hz, asInt, asIntOf, wm, e1, e2, hn', h63', h63'', h63a, h48', Question.forced, hzero, e3, hfo, newRow, grownCap, hassoc]
end raw


/-- what is appended, as the model has it -/
structure NewsOk (P : Program) (w : World) (μ : Inj) (ts : Array TypeId) (ty : TypeId) (e : TypeId) (i : TInfo) (z x' : Value) (n : Nat) (nw nw' : List Value) : Prop where
  len : nw.length = n * i.size
  rel : VRels μ nw nw'
  room : ∀ base sLen sCap, sLen + n ≤ sCap → (Builtin.append_ ts ty #[.slice base sLen sCap, x']).run P w = match base with
      | some a => ((storeCells (a.add (sLen * i.size)) nw' 0).run P w).andThen fun _ w' => .ok (.slice base (sLen + n) sCap) w'
      | none => .ok (.slice none (sLen + n) sCap) w
  grow : ∀ base sLen sCap (old : List Value), (∀ w1 : World, w1.heap = w.heap → (Builtin.firstCells i.size sLen (.slice base sLen sCap)).run P w1 = .ok old.toArray w1) →
    sCap < sLen + n → (sLen + n) * i.bytes ≤ 140737488355328 → sLen + n < 9223372036854775807 →
    (Builtin.append_ ts ty #[.slice base sLen sCap, x']).run P w = .ok (.slice (some ⟨w.heap.size, 0, none⟩) (sLen + n) (grownCap w (sLen + n) sCap e))
        (w.drew.alloc (.cells (old.toArray ++ nw'.toArray ++ Builtin.zeroCells z.cells (grownCap w (sLen + n) sCap e - (sLen + n))) e))

theorem append_val {ts : Array TypeId} {t0 t1 e : TypeId} {i : TInfo} {d1 : TypeDesc} {i0 i1 : TInfo} {z x x' : Value} {n : Nat} {nw : List Value} (ty : TypeId) (hR : Rel ng μ H.get w)
    (ht0 : ts[0]? = some t0) (ht1 : ts[1]? = some t1) (h0 : tinfo P t0 = some i0) (hd0 : i0.desc = .slice e) (hi : tinfo P e = some i) (hz : i.zero = some z) (hzs : z.cells.toList.length = i.size) (hzr : VRel μ z z)
    (h1 : tinfo P t1 = some i1) (hd1 : i1.desc = d1) (hx : VRel μ x x')
    (h : newsOf T H i x d1 = some (n, nw)) : ∃ nw', NewsOk P w μ ts ty e i z x' n nw nw' := by
  obtain ⟨inf, hinf, hsz, hby, hzz⟩ := tinfo_info hi
  have hu0 := tinfo_desc h0
  rw [hd0] at hu0
  have hu1 := tinfo_desc h1
  rw [hd1] at hu1
  rw [hz] at hzz
  have hzsize : z.cells.size = i.size := by simpa using hzs
  have news : ∀ hd : (∃ u, d1 = .slice u) ∨ d1 = .string, appendNews T H i.size x = some (n, nw) → ∃ nw', NewsOk P w μ ts ty e i z x' n nw nw' := by
    intro hd hnews
    clear h
    have h := hnews
    clear hnews
    have main : ∀ nw', nw.length = n * i.size → VRels μ nw nw' → (Builtin.lenOf x').run P w = .ok n w → (∀ w1 : World, w1.heap = w.heap → (Builtin.firstCells i.size n x').run P w1 = .ok nw'.toArray w1) → ∃ nw', NewsOk P w μ ts ty e i z x' n nw nw' := by
      intro nw' hlen hrel hn hnew
      refine ⟨nw', hlen, hrel, fun base sLen sCap hroom => ?_, fun base sLen sCap old hold hg hb hm => ?_⟩
      · have := app_room (w := w) (ty := ty) (base := base) ht0 ht1 hu0 hinf hu1 hd hn (nw := nw') (by rw [hsz]; exact hnew w rfl) hroom
        rw [hsz] at this; exact this
      · exact app_grow (w := w) (ty := ty) (base := base) ht0 ht1 hu0 hinf hzz hu1 hd hn (fun w1 hw1 => by rw [hsz]; exact hnew w1 hw1) (fun w1 hw1 => by rw [hsz]; exact hold w1 hw1) hg (by rw [hby]; exact hb) hm
    unfold appendNews at h
    split at h
    · rename_i a m c
      cases hh : headCells H (m * i.size) (.slice a m c) with
      | none => simp [hh] at h
      | some l =>
        simp only [hh, Option.map_some, Option.some.injEq, Prod.mk.injEq] at h
        obtain ⟨rfl, rfl⟩ := h
        obtain ⟨l', k1, k2, k3⟩ := newsSlice_sim (P := P) hR hx ⟨_, _, _, rfl⟩ hh
        refine main l' k1 k2 ?_ k3
        cases hx <;> rfl
    · rename_i str
      split at h
      · rename_i hs1
        simp only [Option.some.injEq, Prod.mk.injEq] at h
        obtain ⟨rfl, rfl⟩ := h
        have hx' := hx.str_inv
        subst hx'
        refine main _ (by simp [hs1]) (flat1_refls (by rw [List.all_eq_true]; intro v hv; obtain ⟨b, _, rfl⟩ := List.mem_map.1 hv; rfl)) rfl fun w1 _ => ?_
        have hex : str.extract 0 str.size = str := by
          apply bytes_ext
          rw [ByteArray.data_extract]
          simp only [Array.toList_extract, List.extract_eq_take_drop, Nat.sub_zero, List.drop_zero]
          exact List.take_of_length_le (Nat.le_of_eq (by simp))
        simp only [Builtin.firstCells, hex, Sem.run_pure, Result.ok.injEq, and_true]
        apply Array.ext'; simp
      · cases h
    · cases h
  cases d1 <;> simp only [newsOf] at h <;> first
    | exact news (.inl ⟨_, rfl⟩) h
    | exact news (.inr rfl) h
    | (cases h; done)
    | skip
  case int k =>
    unfold appendZeros at h
    split at h
    · rename_i kk m z' hz'
      rw [hz] at hz'
      cases hz'
      split at h
      · rename_i hc
        obtain ⟨c1, c2, c3, c4⟩ := hc
        simp only [Option.some.injEq, Prod.mk.injEq] at h
        obtain ⟨rfl, rfl⟩ := h
        have hx' := hx.int_inv
        refine ⟨rep z.cells.toList m.toNat, by rw [length_rep, hzs], hzr.cells.rep _, fun base sLen sCap hroom => ?_, fun base sLen sCap old hold hg hb hm => ?_⟩
        · have := zappRoom (w := w) (ty := ty) (base := base) ht0 ht1 hu0 hinf hzz hu1 ⟨k, rfl⟩ hx' c1 (by rw [hby]; exact c2) c3 (by rw [hsz]; exact hzsize) hroom
          rw [hsz] at this; exact this
        · exact zappGrow (w := w) (ty := ty) (base := base) ht0 ht1 hu0 hinf hzz hu1 ⟨k, rfl⟩ hx' c1 (by rw [hby]; exact c2) c3 (by rw [hsz]; exact hzsize) (fun w1 hw1 => by rw [hsz]; exact hold w1 hw1) hg (by rw [hby]; exact hb) hm
      · cases h
    · cases h


/-- the new row of an append that has grown -/
theorem grow_rel (hR : Rel ng μ H.get w) (hD : Dom ng μ H) {i : TInfo} {z : Value} {e : TypeId} {old old' nw nw' : List Value} {need cap : Nat} (hold : VRels μ old old') (hnw : VRels μ nw nw') (hlen : (old ++ nw).length = need * i.size) (hzs : z.cells.size = i.size)
    {H1 : Heap} (hH1 : ∀ b, H1.get b = H.get b ∨ H1.get b = .dead) (hnx : H1.next = H.next) (hcap : need ≤ cap) :
    ∃ μ', Goes ng μ H.get w μ' (H1.push (.cells true i.size (old ++ nw))).get (w.drew.alloc (.cells (old'.toArray ++ nw'.toArray ++ Builtin.zeroCells z.cells (cap - need)) e)) ∧
      VRel μ' (.slice (some ⟨H.next, 0, none⟩) need need) (.slice (some ⟨w.heap.size, 0, none⟩) need cap) ∧ Dom ng μ' (H1.push (.cells true i.size (old ++ nw))) ∧ Nxt μ H μ' (H1.push (.cells true i.size (old ++ nw))) := by
  have hR1 : Rel ng μ H1.get w := hR.less hH1
  have hn : μ H.next = none := hD.fresh _ (Nat.le_refl _)
  have hrel := hold.append hnw
  have hl := hrel.length
  let arr := old'.toArray ++ nw'.toArray ++ Builtin.zeroCells z.cells (cap - need)
  have hsize : arr.size = cap * i.size := by
    have e1 : (Builtin.zeroCells z.cells (cap - need)).size = (cap - need) * i.size := by simp [Builtin.zeroCells, hzs]
    have e2 : arr.size = (old' ++ nw').length + (cap - need) * i.size := by
      show (old'.toArray ++ nw'.toArray ++ Builtin.zeroCells z.cells (cap - need)).size = _
      rw [Array.size_append, Array.size_append, e1]; simp
    rw [e2, ← hl, hlen, ← Nat.add_mul]; congr 1; omega
  refine ⟨μ.add H.next ⟨w.heap.size, 0, i.size, arr.size⟩, ?_, ?_, ?_, ⟨by simp [hnx], fun b hb h => by rw [Inj.add_other (by omega)]; exact h⟩⟩
  · have hg1 : Goes ng μ H.get w μ H1.get w := Goes.less hR hH1
    refine hg1.trans ?_
    refine hR1.push (w' := w.drew.alloc (.cells arr e)) (n := H.next) (a := .cells true i.size (old ++ nw)) (o := .cells arr e) (t := ⟨w.heap.size, 0, i.size, arr.size⟩) hD.ng hn rfl rfl ⟨rfl, rfl, rfl⟩ ?_ rfl (H1.push (.cells true i.size (old ++ nw))).get (fun b => by rw [Heap.get_push, hnx])
    refine ⟨arr, e, (0, 0), rfl, rfl, by simp, by rw [hlen, hsize]; exact Nat.mul_le_mul_right _ hcap, fun k v hv => ?_, fun _ k _ => frozenIn_00 k⟩
    obtain ⟨v', k1, k2⟩ := (hrel.mono (Inj.le_add hn)).get k v hv
    refine ⟨v', ?_, k2⟩
    have hk : k < (old' ++ nw').length := (List.getElem?_eq_some_iff.1 k1).1
    have : arr.toList = (old' ++ nw') ++ (Builtin.zeroCells z.cells (cap - need)).toList := by simp [arr]
    rw [← Array.getElem?_toList, this, Nat.zero_add, List.getElem?_append_left hk]
    exact k1
  · refine VRel.slice H.next 0 ⟨w.heap.size, 0, i.size, arr.size⟩ need need cap (Inj.add_same _ _ _) (Nat.le_refl _) hcap (.inr ?_)
    simp [hsize]
  · rw [← hnx]
    exact (show Dom ng μ H1 from ⟨by rw [hnx]; exact hD.ng, fun n hn => hD.fresh n (by rw [← hnx]; exact hn)⟩).push _ _


theorem appendC_sim (hT : T.Ok P ng) (hR : Rel ng μ H.get w) (hD : Dom ng μ H) {ts : Array TypeId} (ty : TypeId) {s s' x x' : Value} {out : Out} (hs : VRel μ s s') (hx : VRel μ x x') (h : appendC T H ts s x = some out) :
    ∃ v H' v' w' μ', out = .val v H' ∧ (Builtin.append_ ts ty #[s', x']).run P w = .ok v' w' ∧ Goes ng μ H.get w μ' H'.get w' ∧ VRel μ' v v' ∧ Dom ng μ' H' ∧ Nxt μ H μ' H' := by
  unfold appendC at h
  split at h
  · cases h
  rename_i t0 ht0
  split at h
  case h_2 => cases h
  rename_i e _ _ _ _ _ hty0
  have h0 := hT.ty _ _ hty0
  split at h
  case h_2 => cases h
  rename_i i d1 hti hts1
  have hi := hT.ty _ _ hti
  -- the second type
  cases ht1 : ts[1]? with
  | none => simp [ht1] at hts1
  | some t1 =>
  simp only [ht1, Option.map_some, Option.some.injEq] at hts1
  cases hq1 : T.ty t1 with
  | none => simp [hq1] at hts1
  | some i1 =>
  simp only [hq1, Option.map_some, Option.some.injEq] at hts1
  have h1 := hT.ty _ _ hq1
  split at h
  case h_2 => cases h
  rename_i n nw z hnews hz0
  split at h
  case isFalse => cases h
  rename_i hcond
  obtain ⟨hzs, hone⟩ := hcond
  have hzr : VRel μ z z := zero_rel hz0 (hT.zero _ _ hti)
  have hzsize : z.cells.size = i.size := by simpa using hzs
  obtain ⟨nw', hN⟩ := append_val (d1 := d1) ty hR ht0 ht1 h0 rfl hi hz0 hzs hzr h1 hts1 hx hnews
  split at h
  · -- a nil slice
    cases hs
    split at h
    · rename_i hn0
      simp at h; subst h
      subst hn0
      refine ⟨_, _, .slice none 0 0, w, μ, rfl, ?_, .refl hR, .slice0, hD, .refl _ _⟩
      exact hN.room none 0 0 (Nat.le_refl _)
    · rename_i hn0
      split at h
      · rename_i hb
        simp at h; subst h
        have hg := hN.grow none 0 0 [] (fun w1 _ => rfl) (by omega) (by simpa using hb.1) (by omega)
        have hcap := grownCap_ge w (0 + n) 0 e
        obtain ⟨μ', k1, k2, k3, k4⟩ := grow_rel (e := e) (z := z) (need := n) (cap := grownCap w (0 + n) 0 e) hR hD (old := []) (old' := []) .nil hN.rel (by simpa using hN.len) hzsize (H1 := H) (fun b => .inl rfl) rfl (by omega)
        simp only [Nat.zero_add, List.nil_append] at hg k1 k2 k3 k4
        exact ⟨_, _, _, _, μ', rfl, hg, k1, k2, k3, k4⟩
      · cases h
  · rename_i b off len cap
    split at h
    case h_2 => cases h
    rename_i esz c hb
    split at h
    case isFalse => cases h
    rename_i hc1
    obtain ⟨rfl, hlen⟩ := hc1
    split at h
    · -- there is room
      rename_i hroom
      split at h
      · rename_i hfit
        simp at h; subst h
        cases hs with
        | sliceZ _ a' =>
          have hn0 : n = 0 := by omega
          subst hn0
          have hnw : nw = [] := List.eq_nil_of_length_eq_zero (by rw [hN.len]; simp)
          have hnw' : nw' = [] := by have := hN.rel; rw [hnw] at this; cases this; rfl
          refine ⟨_, _, .slice (some a') 0 0, w, μ, rfl, ?_, ?_, ?_, hD.put _ _, .same rfl⟩
          · have := hN.room (some a') 0 0 (Nat.le_refl _)
            rw [hnw'] at this; exact this
          · refine Goes.of_eq hR fun j => ?_
            rw [Heap.get_put]
            split
            · rename_i ej; subst ej; rw [hb, hnw]; rfl
            · rfl
          · exact .sliceZ _ _
        | slice _ _ tg _ _ cc hm hl hcc hr =>
          obtain ⟨tg', w', k1, k2, k3⟩ := write_cells (P := P) (off := off + len * i.size) hR hb hN.rel hone (by rw [hN.len]; rw [Nat.add_assoc, ← Nat.add_mul]; exact hfit)
          rw [hm] at k1; cases k1
          refine ⟨_, _, .slice (some ⟨tg.cb, tg.off + off, none⟩) (len + n) cc, w', μ, rfl, ?_, k3, .slice b off tg _ _ _ hm hroom hcc hr, hD.put _ _, .same rfl⟩
          have := hN.room (some ⟨tg.cb, tg.off + off, none⟩) len cc (by omega)
          rw [this]
          simp only [Addr.add_lit, Nat.add_assoc]
          rw [k2]
          rfl
      · cases h
    · -- it grows, by what is known
      rename_i hroom
      split at h
      · rename_i hbig
        simp at h; subst h
        have hoc : ∀ j, (H.put b .dead).get j = H.get j ∨ (H.put b .dead).get j = .dead := fun j => by
          rw [Heap.get_put]; split
          · exact .inr rfl
          · exact .inl rfl
        have holdlen : ((c.drop off).take (len * i.size)).length = len * i.size := by simp; omega
        have hlen2 : ((c.drop off).take (len * i.size) ++ nw).length = (len + n) * i.size := by rw [List.length_append, holdlen, hN.len, Nat.add_mul]
        obtain ⟨tg, arr, ee, fr, q1, q2, q3, q4, q5, q6, q7⟩ := hR.cells hb
        cases hs with
        | sliceZ _ a' =>
          have hg := hN.grow (some a') 0 0 [] (fun w1 _ => by simp [Builtin.firstCells, loadCells, loadCellsFrom]) (by omega) hbig.1 hbig.2
          have hcap := grownCap_ge w (0 + n) 0 e
          obtain ⟨μ', k1, k2, k3, k4⟩ := grow_rel (e := e) (z := z) (need := 0 + n) (cap := grownCap w (0 + n) 0 e) hR hD (old := (c.drop off).take (0 * i.size)) (old' := []) (by simp; exact .nil) hN.rel hlen2 hzsize (H1 := H.put b .dead) hoc rfl hcap
          exact ⟨_, _, _, _, μ', rfl, hg, k1, k2, k3, k4⟩
        | slice _ _ tg' _ _ cc hm hl hcc hr =>
          rw [q1] at hm; cases hm
          have hseg : seg c off (len * i.size) = some ((c.drop off).take (len * i.size)) := by simp [seg, hlen]
          have hsrel := seg_rel hseg q6
          have e1 : ((List.take c.length (List.drop tg.off arr.toList)).drop off).take (len * i.size) = (arr.toList.drop (tg.off + off)).take (len * i.size) := by
            rw [List.drop_take, List.take_take, List.drop_drop]; congr 1; omega
          rw [e1] at hsrel
          by_cases hin : len + n ≤ cc
          · -- in its place
            have hrr : off + cc * i.size ≤ tg.room := by
              rcases hr with hr | hr
              · omega
              · rw [q3] at hr; exact hr
            have hmul : (len + n) * i.size ≤ cc * i.size := Nat.mul_le_mul_right _ hin
            have hadd : (len + n) * i.size = len * i.size + n * i.size := Nat.add_mul _ _ _
            have hnwl := hN.rel.length
            have hst := run_storeSeg (P := P) (cb := tg.cb) (p := tg.off + off + len * i.size) nw' 0 arr w q2 (q7 rfl) (by rw [← hnwl, hN.len]; omega) (by rw [hN.rel.oneCells]; exact hone)
            have hnone : μ H.next = none := hD.fresh _ (Nat.le_refl _)
            have hdead : H.get H.next = .dead := by
              cases hgn : H.get H.next with
              | dead => rfl
              | _ =>
                obtain ⟨t2, _, p1, _⟩ := hR.obj H.next (by rw [hgn]; simp)
                rw [hnone] at p1; cases p1
            refine ⟨_, _, .slice (some ⟨tg.cb, tg.off + off, none⟩) (len + n) cc, _, μ.add H.next ⟨tg.cb, tg.off + off, i.size, tg.room - off⟩, rfl, ?_,
              hR.move (w' := setB w tg.cb (.cells (setSeg arr.toList (tg.off + off + len * i.size + 0) nw').toArray ee fr)) (b := b) (n := H.next) (a := .cells true i.size ((c.drop off).take (len * i.size) ++ nw))
                (o := .cells (setSeg arr.toList (tg.off + off + len * i.size + 0) nw').toArray ee fr) (t := tg) (t' := ⟨tg.cb, tg.off + off, i.size, tg.room - off⟩) hD.ng (by rw [hb]; rfl) q1 hnone rfl rfl ⟨rfl, rfl, rfl⟩ ?_ hdead rfl _ (fun j => by rw [Heap.get_push, Heap.get_put]; rfl), ?_, (hD.put b .dead).push _ _, ⟨Nat.le_succ _, fun b hb h => by rw [Inj.add_other (by omega)]; exact h⟩⟩
            · have := hN.room (some ⟨tg.cb, tg.off + off, none⟩) len cc hin
              rw [this]
              simp only [Addr.add_lit]
              rw [hst]
              rfl
            · refine ⟨_, ee, fr, rfl, rfl, by simp [length_setSeg]; omega, by rw [hlen2]; show _ ≤ tg.room - off; omega, ?_, fun _ k hk => q7 rfl k (by simpa [length_setSeg] using hk)⟩
              intro k v hv
              have hle : μ.Le (μ.add H.next ⟨tg.cb, tg.off + off, i.size, tg.room - off⟩) := Inj.le_add hnone
              show ∃ v', (setSeg arr.toList (tg.off + off + len * i.size + 0) nw').toArray[tg.off + off + k]? = some v' ∧ _
              rw [List.getElem?_toArray, Nat.add_zero, get_setSeg nw' arr.toList (tg.off + off + len * i.size) (tg.off + off + k) (by rw [← hnwl, hN.len]; simp; omega)]
              by_cases hk : k < len * i.size
              · rw [List.getElem?_append_left (by rw [holdlen]; exact hk)] at hv
                rw [if_neg (by omega)]
                obtain ⟨v', p1, p2⟩ := (hsrel.mono hle).get k v hv
                rw [List.getElem?_take, if_pos hk, List.getElem?_drop] at p1
                exact ⟨v', p1, p2⟩
              · have hkn : k < (len + n) * i.size := by rw [← hlen2]; exact (List.getElem?_eq_some_iff.1 hv).1
                rw [List.getElem?_append_right (by rw [holdlen]; omega), holdlen] at hv
                rw [if_pos (by rw [← hnwl, hN.len]; omega), show tg.off + off + k - (tg.off + off + len * i.size) = k - len * i.size by omega]
                obtain ⟨v', p1, p2⟩ := (hN.rel.mono hle).get _ v hv
                exact ⟨v', p1, p2⟩
            · refine VRel.slice H.next 0 ⟨tg.cb, tg.off + off, i.size, tg.room - off⟩ (len + n) (len + n) cc (Inj.add_same _ _ _) (Nat.le_refl _) hin (.inr ?_)
              show 0 + cc * i.size ≤ tg.room - off
              omega
          · -- in a new row
            have hg := hN.grow (some ⟨tg.cb, tg.off + off, none⟩) len cc ((arr.toList.drop (tg.off + off)).take (len * i.size)) (fun w1 hw1 => by
              simp only [Builtin.firstCells]
              exact run_loadSeg (by rw [hw1]; exact q2) (by omega)) (by omega) hbig.1 hbig.2
            have hcap := grownCap_ge w (len + n) cc e
            obtain ⟨μ', k1, k2, k3, k4⟩ := grow_rel (e := e) (z := z) (need := len + n) (cap := grownCap w (len + n) cc e) hR hD hsrel hN.rel hlen2 hzsize (H1 := H.put b .dead) hoc rfl hcap
            exact ⟨_, _, _, _, μ', rfl, hg, k1, k2, k3, k4⟩
      · cases h
  · cases h

end
end Go.Ab
end
section
namespace Go.Ab

section
variable {P : Program} {T : Tab} {ng : Nat} {μ : Inj} {H : Heap} {w : World} {ρ ρ' : Operand → Value} {o : Oper}

theorem copyC_sim (hT : T.Ok P ng) (hR : Rel ng μ H.get w) (hD : Dom ng μ H) {ts : Array TypeId} (ty : TypeId) {s s' x x' : Value} {out : Out} (hs : VRel μ s s') (hx : VRel μ x x') (h : copyC T H ts s x = some out) :
    ∃ v H' v' w' μ', out = .val v H' ∧ (Builtin.copy_ ts ty #[s', x']).run P w = .ok v' w' ∧ Goes ng μ H.get w μ' H'.get w' ∧ VRel μ' v v' ∧ Dom ng μ' H' ∧ Nxt μ H μ' H' := by
  unfold copyC at h
  split at h
  · cases h
  rename_i t0 ht0
  split at h
  case h_2 => cases h
  rename_i e _ _ _ _ _ hty0
  have hu0 := r_underlying w (hT.ty _ _ hty0)
  simp only at hu0
  split at h
  case h_2 => cases h
  rename_i i hti
  have hsz := r_sizeOf w (hT.ty _ _ hti)
  split at h
  · cases hs
    split at h
    · simp at h; subst h
      refine ⟨_, _, .int .i64 0, w, μ, rfl, ?_, .refl hR, .int _ _, hD, .refl _ _⟩
      cases hx <;> simp [Builtin.copy_, ht0, hu0, Builtin.lenOf, hsz, Builtin.firstCells, loadCells, loadCellsFrom, goInt]
    · simp at h; subst h
      refine ⟨_, _, .int .i64 0, w, μ, rfl, ?_, .refl hR, .int _ _, hD, .refl _ _⟩
      cases hx
      simp [Builtin.copy_, ht0, hu0, Builtin.lenOf, hsz, Builtin.firstCells, goInt]
    · cases h
  · rename_i b off dlen dcap
    have main : ∀ (n : Nat) (l l' : List Value), VRels μ l l' → (∃ m, (Builtin.lenOf x').run P w = .ok m w ∧ n = Nat.min m dlen) → (Builtin.firstCells i.size n x').run P w = .ok l'.toArray w → (n = 0 → l = []) →
        (∃ esz c, H.get b = .cells true esz c ∧ l.all oneCell = true ∧ off + l.length ≤ c.length ∧ out = .val (.int .i64 n) (H.put b (.cells true esz (setSeg c off l)))) →
        ∃ v H' v' w' μ', out = .val v H' ∧ (Builtin.copy_ ts ty #[s', x']).run P w = .ok v' w' ∧ Goes ng μ H.get w μ' H'.get w' ∧ VRel μ' v v' ∧ Dom ng μ' H' ∧ Nxt μ H μ' H' := by
      rintro n l l' hl ⟨m, hm, rfl⟩ hf hn0 ⟨esz, c, hb, hone, hfit, rfl⟩
      cases hs with
      | sliceZ _ a' =>
        have hl0 : l = [] := hn0 (by simp)
        subst hl0
        cases hl
        have hf' : Sem.run P (Builtin.firstCells i.size (m.min 0) x') w = Result.ok #[] w := hf
        refine ⟨_, _, .int .i64 (Nat.min m 0 : Nat), w, μ, rfl, ?_, ?_, .int _ _, hD.put _ _, .same rfl⟩
        · simp only [Builtin.copy_, List.getElem?_toArray, ht0, List.getElem?_cons_zero, List.getElem?_cons_succ, Sem.run_bind, hu0, Result.andThen_ok, hm, hsz, hf', storeCells, Sem.run_pure, goInt]
        · refine Goes.of_eq hR fun j => ?_
          rw [Heap.get_put]
          split
          · rename_i ej; subst ej; rw [hb]; rfl
          · rfl
      | slice _ _ tg _ _ cc hmu hl1 hcc hr =>
        obtain ⟨tg', w', k1, k2, k3⟩ := write_cells (P := P) hR hb hl hone hfit
        rw [hmu] at k1; cases k1
        refine ⟨_, _, .int .i64 (Nat.min m dlen : Nat), w', μ, rfl, ?_, k3, .int _ _, hD.put _ _, .same rfl⟩
        simp only [Builtin.copy_, List.getElem?_toArray, ht0, List.getElem?_cons_zero, List.getElem?_cons_succ, Sem.run_bind, hu0, Result.andThen_ok, hm, hsz, hf, k2, Sem.run_pure, goInt]
    simp only at h
    split at h
    case h_2 => cases h
    rename_i n l hsrc
    split at h
    case h_2 => cases h
    rename_i esz c hb
    split at h
    case isFalse => cases h
    rename_i hc
    simp at h
    split at hsrc
    · rename_i a m c'
      cases hh : headCells H (Nat.min m dlen * i.size) (.slice a m c') with
      | none => simp [hh] at hsrc
      | some l0 =>
        simp only [hh, Option.map_some, Option.some.injEq, Prod.mk.injEq] at hsrc
        obtain ⟨rfl, rfl⟩ := hsrc
        obtain ⟨l', k1, k2, k3⟩ := newsSlice_sim (P := P) hR hx ⟨_, _, _, rfl⟩ hh
        refine main _ _ l' k2 ⟨m, by cases hx <;> rfl, rfl⟩ (k3 w rfl) (fun h0 => List.eq_nil_of_length_eq_zero (by rw [k1, h0]; simp)) ⟨esz, c, hb, hc.1, hc.2, h.symm⟩
    · rename_i str
      split at hsrc
      · rename_i hs1
        simp only [Option.some.injEq, Prod.mk.injEq] at hsrc
        obtain ⟨rfl, rfl⟩ := hsrc
        have hx' := hx.str_inv
        subst hx'
        refine main _ _ _ (flat1_refls (by rw [List.all_eq_true]; intro v hv; obtain ⟨b, _, rfl⟩ := List.mem_map.1 hv; rfl)) ⟨str.size, rfl, rfl⟩ ?_ (fun h0 => by rw [h0]; rfl) ⟨esz, c, hb, hc.1, hc.2, h.symm⟩
        simp only [Builtin.firstCells, Sem.run_pure, Result.ok.injEq, and_true]
        apply Array.ext'
        rw [ByteArray.data_extract]
        simp only [Array.toList_map, Array.toList_extract, List.extract_eq_take_drop, Nat.sub_zero, List.drop_zero]
      · cases hsrc
    · cases hsrc
  · cases h

/-! ### maps -/
theorem ERels.modify {f f' : MapEntry → MapEntry} : ∀ {l l' : List MapEntry} (i : Nat), ERels μ l l' → (∀ e e', ERel μ e e' → ERel μ (f e) (f' e')) → ERels μ (l.modify i f) (l'.modify i f')
  | _, _, _, .nil, _ => by simp; exact .nil
  | _, _, 0, .cons e e' l l' h t, hf => by simp; exact .cons _ _ _ _ (hf _ _ h) t
  | _, _, i + 1, .cons e e' l l' h t, hf => by simp; exact .cons _ _ _ _ h (t.modify i hf)
theorem ERels.append : ∀ {l l' m m' : List MapEntry}, ERels μ l l' → ERels μ m m' → ERels μ (l ++ m) (l' ++ m')
  | _, _, _, _, .nil, h => h
  | _, _, _, _, .cons e e' l l' h0 t, h => .cons _ _ _ _ h0 (t.append h)
theorem ERels.eraseIdx : ∀ {l l' : List MapEntry} (i : Nat), ERels μ l l' → ERels μ (l.eraseIdx i) (l'.eraseIdx i)
  | _, _, _, .nil => by simp; exact .nil
  | _, _, 0, .cons e e' l l' h t => by simp; exact t
  | _, _, i + 1, .cons e e' l l' h t => by simp; exact .cons _ _ _ _ h (t.eraseIdx i)
theorem ERels.get : ∀ {l l' : List MapEntry}, ERels μ l l' → ∀ (i : Nat) (e : MapEntry), l[i]? = some e → ∃ e', l'[i]? = some e' ∧ ERel μ e e'
  | _, _, .nil, i, e, h => by simp at h
  | _, _, .cons a a' l l' h0 t, 0, e, h => by simp at h; subst h; exact ⟨a', by simp, h0⟩
  | _, _, .cons a a' l l' h0 t, i + 1, e, h => by simp at h; simpa using t.get i e h

theorem run_setObj_map {r : Nat} {es : Array MapEntry} {cl : Nat} {ob : Obj} (h : w.heap[r]? = some (.map es cl)) : (setObj r ob).run P w = .ok () (setB w r ob) := by
  simp [setObj, Sem.run, h, setB]

theorem map_write (hR : Rel ng μ H.get w) {b cl cl' : Nat} {es es2 : List MapEntry} {es2' : Array MapEntry} {t : Tgt} (hb : H.get b = .map es cl) (ht : μ b = some t) (h0 : t.off = 0) (he : ERels μ es2 es2'.toList) :
    Goes ng μ H.get w μ (H.put b (.map es2 cl')).get (setB w t.cb (.map es2' cl')) :=
  hR.write (w' := setB w t.cb (.map es2' cl')) (b := b) (a := .map es2 cl') (o := .map es2' cl') (by rw [hb]; rfl) ht rfl ⟨rfl, rfl, rfl⟩ ⟨es2', rfl, h0, he⟩ rfl (H.put b (.map es2 cl')).get (fun j => by rw [Heap.get_put])

theorem bytes_beq {a b : ByteArray} : (a == b) = true ↔ a = b := by
  constructor
  · intro h
    have : (a.data == b.data) = true := by
      cases a; cases b; exact h
    have e := eq_of_beq this
    cases a; cases b; simp only at e; rw [e]
  · rintro rfl
    cases a with
    | mk d => exact (beq_self_eq_true d : (d == d) = true)

theorem sameBits_of {d : TypeDesc} {k k' : Value} (hk : keyFlat d k = true) (h : Instr.sameNow d k k' = some true) : Instr.sameBits 10000 k' k = true := by
  unfold keyFlat at hk
  split at hk
  · cases k' <;> simp [Instr.sameNow] at h
    obtain ⟨rfl, rfl⟩ := h
    simp [Instr.sameBits]
  · cases k' <;> simp [Instr.sameNow] at h
    have e := bytes_beq.1 h
    subst e
    simp only [Instr.sameBits]
    exact h
  · cases k' <;> simp [Instr.sameNow] at h
    subst h
    simp [Instr.sameBits]
  · cases hk

theorem updateC_sim (hT : T.Ok P ng) (hR : Rel ng μ H.get w) {mt : TypeId} {m m' k k' v v' : Value} {H' : Heap} (hm : VRel μ m m') (hk : VRel μ k k') (hv : VRel μ v v') (h : updateC T H mt m k v = some H') :
    ∃ w', (Instr.mapUpdate mt m' k' v').run P w = .ok () w' ∧ Goes ng μ H.get w μ H'.get w' ∧ H'.next = H.next := by
  unfold updateC at h
  split at h
  case h_2 => cases h
  rename_i kt et _ _ _ _ _ hty
  have hu := r_underlying w (hT.ty _ _ hty)
  simp only at hu
  split at h
  case h_2 => cases h
  rename_i ki hk1
  have hki := hT.ty _ _ hk1
  split at h
  case isFalse => cases h
  rename_i hkf
  have ek : k' = k := hk.flat1_eq (keyFlat_flat hkf)
  subst ek
  split at h
  case h_2 => cases h
  rename_i b
  cases hm with
  | map _ tg hmu =>
  split at h
  case h_2 => cases h
  rename_i es cl hb
  obtain ⟨tg', es', h1, h2, h3, h4⟩ := hR.map hb
  rw [hmu] at h1; cases h1
  split at h
  · rename_i p hf
    simp at h; subst h
    obtain ⟨r', k1, k2⟩ := findE_sim h4 hf
    cases r' with
    | none => exact absurd k2 id
    | some p' =>
      obtain ⟨j1, j2, j3, e, j4, j5⟩ := k2
      simp only [Nat.sub_zero] at j4
      obtain ⟨e', g1, g2⟩ := h4.get _ _ j4
      have hkey : Instr.sameBits 10000 e'.key k' = true := by
        have : Instr.sameNow ki.desc k' e'.key = some true := by
          have hee := g2.key
          have hfl : flat1 e.key = true := by
            unfold keyFlat at hkf
            split at hkf
            · cases hek : e.key <;> rw [hek] at j5 <;> simp [Instr.sameNow] at j5 <;> rfl
            · cases hek : e.key <;> rw [hek] at j5 <;> simp [Instr.sameNow] at j5 <;> rfl
            · cases hek : e.key <;> rw [hek] at j5 <;> simp [Instr.sameNow] at j5 <;> rfl
            · cases hkf
          rw [hee.flat1_eq hfl]; exact j5
        exact sameBits_of hkf this
      rw [j1] at g1
      have ge : es'[p'.1]? = some e' := by simpa using g1
      refine ⟨setB w tg.cb (.map (es'.modify p'.1 fun e => { e with key := k', val := v' }) cl), ?_, ?_, rfl⟩
      · simp [Instr.mapUpdate, hu, run_getObj_map h3, checkKey_run hki hkf, findKey_run hki k1, Instr.keyThatStays, ge, hkey, run_setObj_map h3]
      · refine map_write hR hb hmu h2 ?_
        rw [Array.toList_modify, j1]
        exact h4.modify _ fun a a' ha => ⟨hk, hv, ha.born⟩
  · rename_i hf
    simp at h; subst h
    obtain ⟨r', k1, k2⟩ := findE_sim h4 hf
    cases r' with
    | some p' => exact absurd k2 id
    | none =>
      refine ⟨setB w tg.cb (.map (es'.push { key := k', val := v', born := cl }) (cl + 1)), ?_, ?_, rfl⟩
      · simp [Instr.mapUpdate, hu, run_getObj_map h3, checkKey_run hki hkf, findKey_run hki k1, run_setObj_map h3]
      · refine map_write hR hb hmu h2 ?_
        rw [Array.toList_push]
        exact h4.append (.cons _ _ _ _ ⟨hk, hv, rfl⟩ .nil)
  · cases h

theorem deleteC_sim (hT : T.Ok P ng) (hR : Rel ng μ H.get w) {ts : Array TypeId} (ty : TypeId) {mt : TypeId} {m m' k k' : Value} {H' : Heap} (ht : ts[0]? = some mt) (hm : VRel μ m m') (hk : VRel μ k k') (h : deleteC T H mt m k = some H') :
    ∃ w', (Builtin.delete_ ts ty #[m', k']).run P w = .ok (.tuple #[]) w' ∧ Goes ng μ H.get w μ H'.get w' ∧ H'.next = H.next := by
  unfold deleteC at h
  split at h
  case h_2 => cases h
  rename_i kt et _ _ _ _ _ hty
  have hu := r_underlying w (hT.ty _ _ hty)
  simp only at hu
  split at h
  case h_2 => cases h
  rename_i ki hk1
  have hki := hT.ty _ _ hk1
  split at h
  case isFalse => cases h
  rename_i hkf
  have ek : k' = k := hk.flat1_eq (keyFlat_flat hkf)
  subst ek
  split at h
  · simp at h; subst h
    cases hm
    refine ⟨w, ?_, .refl hR, rfl⟩
    simp [Builtin.delete_, ht, hu, checkKey_run hki hkf]
  · rename_i b
    cases hm with
    | map _ tg hmu =>
    split at h
    case h_2 => cases h
    rename_i es cl hb
    obtain ⟨tg', es', h1, h2, h3, h4⟩ := hR.map hb
    rw [hmu] at h1; cases h1
    split at h
    · rename_i p hf
      simp at h; subst h
      obtain ⟨r', k1, k2⟩ := findE_sim h4 hf
      cases r' with
      | none => exact absurd k2 id
      | some p' =>
        obtain ⟨j1, j2, j3, e, j4, j5⟩ := k2
        refine ⟨setB w tg.cb (.map (es'.eraseIdxIfInBounds p'.1) cl), ?_, ?_, rfl⟩
        · simp [Builtin.delete_, ht, hu, run_getObj_map h3, checkKey_run hki hkf, findKey_run hki k1, run_setObj_map h3]
        · refine map_write hR hb hmu h2 ?_
          rw [Array.toList_eraseIdxIfInBounds, j1]
          exact h4.eraseIdx _
    · rename_i hf
      simp at h; subst h
      obtain ⟨r', k1, k2⟩ := findE_sim h4 hf
      cases r' with
      | some p' => exact absurd k2 id
      | none =>
        refine ⟨setB w tg.cb (.map es' cl), ?_, ?_, rfl⟩
        · simp [Builtin.delete_, ht, hu, run_getObj_map h3, checkKey_run hki hkf, findKey_run hki k1, run_setObj_map h3]
        · rw [setB_self h3]; exact .refl hR
    · cases h
  · cases h

end
end Go.Ab
end
section
namespace Go.Ab

inductive DRel (μ : Inj) : Deferred → Deferred → Prop where
  | fn (f : FuncId) (cap cap' args args' : Array Value) (hc : VRels μ cap.toList cap'.toList) (ha : VRels μ args.toList args'.toList) :
      DRel μ { target := .fn (.func f) cap, args := args } { target := .fn (.func f) cap', args := args' }
  | mark (r : Nat) (t : Tgt) (args args' : Array Value) (h : μ r = some t) : DRel μ { target := .collected r, args := args } { target := .collected t.cb, args := args' }

theorem DRel.mono {μ μ' : Inj} (hμ : μ.Le μ') {d d' : Deferred} (h : DRel μ d d') : DRel μ' d d' := by
  cases h with
  | fn f cap cap' args args' hc ha => exact .fn f _ _ _ _ (hc.mono hμ) (ha.mono hμ)
  | mark r t a a' h => exact .mark r t _ _ (hμ _ _ h)

def OpOk (P : Program) (T : Tab) (ng : Nat) (μ : Inj) (H : Heap) (w : World) (ρ' : Operand → Value) (o : Oper) : Out → Prop
  | .val v H' => ∃ v' w' μ', ((execOp ρ' o).run P w = .ok (.value v') w' ∨ (v' = undef ∧ (execOp ρ' o).run P w = .ok .skip w')) ∧ Goes ng μ H.get w μ' H'.get w' ∧ VRel μ' v v' ∧ Dom ng μ' H' ∧ Nxt μ H μ' H'
  | .call f args => ∃ args' fn, (execOp ρ' o).run P w = .ok (.enter f args') w ∧ VRels μ args.toList args'.toList ∧ T.fn f = some fn
  | .round l args => ∃ args' t, μ l = some t ∧ (execOp ρ' o).run P w = (Instr.yield t.cb args').run P w ∧ VRels μ args.toList args'.toList
  | .dfr d => ∃ d', (execOp ρ' o).run P w = .ok (.defer d') w ∧ DRel μ d d' ∧ ∃ c, o.op = .defer c
  | .pan v => ∃ v', (execOp ρ' o).run P w = .halt (.panic v') w ∧ VRel μ v v'

section
variable {P : Program} {T : Tab} {ng : Nat} {μ : Inj} {H : Heap} {w : World} {ρ ρ' : Operand → Value} {o : Oper}

theorem args_rel {args : Array Operand} (h : ∀ x ∈ args.toList, VRel μ (ρ x) (ρ' x)) : VRels μ (args.map ρ).toList (args.map ρ').toList := by
  simp only [Array.toList_map]; exact VRels.map_mem h

theorem fnOf_sim (hT : T.Ok P ng) {f f' : Value} {args args' : Array Value} {out : Out} (hf : VRel μ f f') (ha : VRels μ args.toList args'.toList) (h : fnOf T f args = some out) :
    (∃ g as as' fn, out = .call g as ∧ VRels μ as.toList as'.toList ∧ T.fn g = some fn ∧ ∃ d, (Deferred.ofValue f' args').run P w = .ok d w ∧ (invoke d.target d.args).run P w = .ok (.enter g as') w) ∨
    (∃ l as as' t, out = .round l as ∧ μ l = some t ∧ VRels μ as.toList as'.toList ∧ ∃ d, (Deferred.ofValue f' args').run P w = .ok d w ∧ (invoke d.target d.args).run P w = (Instr.yield t.cb as').run P w) := by
  unfold fnOf at h
  split at h
  · rename_i g first captured
    split at h
    · rename_i fn hfn
      cases hb : fn.body with
      | none => simp [hb] at h
      | some c =>
        simp only [hb, Option.isSome_some, cond_true, Option.some.injEq] at h
        subst h
        obtain ⟨q1, q2, q3⟩ := hT.fn _ _ hfn
        cases hf with
        | func _ _ _ a' c' h1 h2 =>
          refine .inl ⟨g, _, a' ++ args' ++ c', fn, rfl, ?_, hfn, { target := .fn (.func g) c', args := a' ++ args' }, rfl, ?_⟩
          · simp only [Array.toList_append]; exact (h1.append ha).append h2
          · simp only [invoke, callFunc, Sem.run_bind, run_program, Result.andThen_ok, q1, q2, hb]
            rfl
    · cases h
  · rename_i l first captured
    simp only [Option.some.injEq] at h
    subst h
    cases hf with
    | yield _ t hm => exact .inr ⟨l, _, #[] ++ args', t, rfl, hm, by simpa using ha, { target := .fn (.yield t.cb) #[], args := #[] ++ args' }, rfl, rfl⟩
  · cases h

theorem Rel.iter (hR : Rel ng μ H.get w) {b : Nat} {s : ByteArray} {p : Nat} (hb : H.get b = .iter s p) :
    ∃ t, μ b = some t ∧ t.off = 0 ∧ w.heap[t.cb]? = some (.stringIter s p) := by
  obtain ⟨t, ob, h1, h2, h3⟩ := hR.obj b (by rw [hb]; simp)
  rw [hb] at h3
  obtain ⟨rfl, h4⟩ := h3
  exact ⟨t, h1, h4, h2⟩


theorem aeff_sim (hT : T.Ok P ng) (hR : Rel ng μ H.get w) (hD : Dom ng μ H) (hρ : ∀ x ∈ o.op.operands.toList, VRel μ (ρ x) (ρ' x)) {out : Out} (h : aeff T ρ o H = some out) : OpOk P T ng μ H w ρ' o out := by
  have hundef : VRel μ undef undef := .tuple _ _ .nil
  unfold aeff at h
  split at h
  case h_1 t a v ho =>
    have ha := hρ a (by simp [ho, Op.operands])
    have hv := hρ v (by simp [ho, Op.operands])
    split at h
    · rename_i b off i hab hti
      cases hs : storeC H i b off (ρ v) with
      | none => simp [hs] at h
      | some H' =>
        simp [hs] at h; subst h
        rw [hab] at ha
        obtain ⟨tg, hm, ha'⟩ := ha.ptr_inv
        obtain ⟨tg', w', k1, k2, k3, k4⟩ := storeC_sim hR (hT.ty _ _ hti) hv hs
        rw [hm] at k1; cases k1
        refine ⟨undef, w', μ, .inr ⟨rfl, ?_⟩, k3, hundef, ⟨by rw [k4]; exact hD.ng, by rw [k4]; exact hD.fresh⟩, .same k4⟩
        simp [execOp, ho, Instr.storeAt, ha', Instr.sureAddr, k2]
    · cases h
  case h_2 t m k v ho =>
    have hm := hρ m (by simp [ho, Op.operands])
    have hk := hρ k (by simp [ho, Op.operands])
    have hv := hρ v (by simp [ho, Op.operands])
    cases hs : updateC T H t (ρ m) (ρ k) (ρ v) with
    | none => simp [hs] at h
    | some H' =>
      simp [hs] at h; subst h
      obtain ⟨w', k2, k3, k4⟩ := updateC_sim hT hR hm hk hv hs
      refine ⟨undef, w', μ, .inr ⟨rfl, ?_⟩, k3, hundef, ⟨by rw [k4]; exact hD.ng, by rw [k4]; exact hD.fresh⟩, .same k4⟩
      simp [execOp, ho, k2]
  case h_3 t m k v ho =>
    have hm := hρ m (by simp [ho, Op.operands])
    have hk := hρ k (by simp [ho, Op.operands])
    have hv := hρ v (by simp [ho, Op.operands])
    cases hs : updateC T H t (ρ m) (ρ k) (ρ v) with
    | none => simp [hs] at h
    | some H' =>
      simp [hs] at h; subst h
      obtain ⟨w', k2, k3, k4⟩ := updateC_sim hT hR hm hk hv hs
      refine ⟨undef, w', μ, .inr ⟨rfl, ?_⟩, k3, hundef, ⟨by rw [k4]; exact hD.ng, by rw [k4]; exact hD.fresh⟩, .same k4⟩
      simp [execOp, ho, k2]
  case h_4 it isS ho =>
    have hit := hρ it (by simp [ho, Op.operands])
    split at h
    · rename_i b hib
      split at h
      · rename_i s pos hb
        rw [hib] at hit
        obtain ⟨tg, hm, hit'⟩ := hit.ptr_inv
        obtain ⟨tg', k1, k2, k3⟩ := hR.iter hb
        rw [hm] at k1; cases k1
        have hget : (getObj tg.cb).run P w = .ok (.stringIter s pos) w := by simp [getObj, Sem.run, k3]
        split at h
        · rename_i hpos
          simp at h; subst h
          refine ⟨.tuple #[.bool true, goInt pos, .int .i32 (Utf8.decode s pos).1], setB w tg.cb (.stringIter s (pos + (Utf8.decode s pos).2)), μ, .inl ?_, ?_, ?_, hD.put _ _, .same rfl⟩
          · have hset : (setObj tg.cb (.stringIter s (pos + (Utf8.decode s pos).2))).run P w = .ok () (setB w tg.cb (.stringIter s (pos + (Utf8.decode s pos).2))) := by simp [setObj, Sem.run, k3, setB]
            simp [execOp, ho, hit', k2, Instr.next, hget, hpos, hset]
          · exact hR.write (w' := setB w tg.cb (.stringIter s (pos + (Utf8.decode s pos).2))) (b := b) (a := .iter s (pos + (Utf8.decode s pos).2)) (o := .stringIter s (pos + (Utf8.decode s pos).2)) (by rw [hb]; rfl) hm rfl ⟨rfl, rfl, rfl⟩ ⟨rfl, k2⟩ rfl (H.put b (.iter s (pos + (Utf8.decode s pos).2))).get (fun j => by rw [Heap.get_put])
          · exact .tuple _ _ (.cons _ _ _ _ (.bool _) (.cons _ _ _ _ (.int _ _) (.cons _ _ _ _ (.int _ _) .nil)))
        · rename_i hpos
          simp at h; subst h
          refine ⟨.tuple #[.bool false], w, μ, .inl ?_, .refl hR, .tuple _ _ (.cons _ _ _ _ (.bool _) .nil), hD, .refl _ _⟩
          simp [execOp, ho, hit', k2, Instr.next, hget, hpos]
      · cases h
    · cases h
  case h_5 src dst x ho =>
    have hx := hρ x (by simp [ho, Op.operands])
    unfold descOf at h
    split at h
    · rename_i e s hsrc hdst hxa
      cases hq1 : T.ty src with
      | none => simp [hq1] at hsrc
      | some i1 =>
      cases hq2 : T.ty dst with
      | none => simp [hq2] at hdst
      | some i2 =>
      simp only [hq1, hq2, Option.map_some, Option.some.injEq] at hsrc hdst
      have hu1 := r_underlying w (hT.ty _ _ hq1)
      have hu2 := r_underlying w (hT.ty _ _ hq2)
      rw [hsrc] at hu1
      rw [hdst] at hu2
      split at h
      · rename_i i hel hti
        simp only [hti, Option.map_some, Option.some.injEq] at hel
        have hu3 := r_underlying w (hT.ty _ _ hti)
        rw [hel] at hu3
        split at h
        · rename_i hc
          simp at h; subst h
          rw [hxa] at hx
          have hx' := hx.str_inv
          have hcap : s.size ≤ (Question.appendCap s.size 0 e).cut (w.tape w.drawn (.appendCap s.size 0 e)) := by simp [Question.cut]
          generalize hcp : (Question.appendCap s.size 0 e).cut (w.tape w.drawn (.appendCap s.size 0 e)) = cap at hcap
          let arr : Array Value := (s.data.map fun b => .int .u8 (b.toNat : Int)) ++ Array.replicate (cap - s.size) (.int .u8 0)
          have hasz : arr.size = cap := by
            have : s.data.size = s.size := rfl
            simp [arr, this]; omega
          have hw : ((w.drew.alloc (.cells arr e)).freeze ⟨w.heap.size, arr.size, none⟩ 1).heap = w.heap.push (.cells arr e (arr.size, arr.size + 1)) := by
            show (if (1 : Nat) = 0 then w.drew.alloc (.cells arr e) else _).heap = _
            rw [if_neg (by omega)]
            apply Array.ext_getElem?
            intro k
            show ((w.heap.push (.cells arr e)).modify w.heap.size _)[k]? = _
            rw [Array.getElem?_modify]
            by_cases hk : k = w.heap.size
            · subst hk; rw [if_pos rfl]; simp
            · rw [if_neg (fun e => hk e.symm), Array.getElem?_push, Array.getElem?_push, if_neg hk, if_neg hk]
          have hrun : (Conv.stringToBytes e s).run P w = .ok (.slice (some ⟨w.heap.size, 0, none⟩) s.size cap) ((w.drew.alloc (.cells arr e)).freeze ⟨w.heap.size, arr.size, none⟩ 1) := by
            have hshape : (w.drew.alloc (.cells arr e)).shape? w.heap.size = some (e, arr.size) := by
              have : (w.drew.alloc (.cells arr e)).heap[w.heap.size]? = some (.cells arr e) := by
                show (w.heap.push _)[w.heap.size]? = _
                simp
              unfold World.shape?; rw [this]
            simp only [Conv.stringToBytes, Sem.run_bind, run_choose, Question.forced, Bool.false_eq_true, if_false, Result.andThen_ok, hcp]
            simp only [newRow, Sem.run_bind, run_newObj, Result.andThen_ok, Sem.run_pure, markStringish, run_shape]
            show ((match (w.drew.alloc (.cells arr e)).shape? w.heap.size with
              | some (_, n) => freeze { block := w.heap.size, off := n } 1
              | _ => pure () : Sem Unit).run P (w.drew.alloc (.cells arr e))).andThen _ = _
            rw [hshape]
            rfl
          refine ⟨.slice (some ⟨w.heap.size, 0, none⟩) s.size cap, (w.drew.alloc (.cells arr e)).freeze ⟨w.heap.size, arr.size, none⟩ 1, μ.add H.next ⟨w.heap.size, 0, 1, arr.size⟩, .inl ?_, ?_, ?_, hD.push _ _, .push _ _ _ _⟩
          · simp [execOp, ho, hx', convert, hu1, hu2, hu3, hrun]
          · have hn : μ H.next = none := hD.fresh _ (Nat.le_refl _)
            refine hR.push (w' := (w.drew.alloc (.cells arr e)).freeze ⟨w.heap.size, arr.size, none⟩ 1) (n := H.next) (a := .cells true 1 (s.data.toList.map fun b => .int .u8 (b.toNat : Int))) (o := .cells arr e (arr.size, arr.size + 1)) (t := ⟨w.heap.size, 0, 1, arr.size⟩)
              hD.ng hn rfl hw ⟨rfl, rfl, rfl⟩ ?_ rfl (H.push (.cells true 1 (s.data.toList.map fun b => .int .u8 (b.toNat : Int)))).get (fun b => by rw [Heap.get_push])
            refine ⟨arr, e, (arr.size, arr.size + 1), rfl, rfl, by simp, by rw [hasz]; simp; exact hcap, fun k v hv => ?_, fun _ k hk => by simp [frozenIn]; omega⟩
            have hk : k < s.data.size := by have := (List.getElem?_eq_some_iff.1 hv).1; simpa using this
            refine ⟨v, ?_, ?_⟩
            · have : arr.toList = (s.data.toList.map fun b => Value.int .u8 (b.toNat : Int)) ++ List.replicate (cap - s.size) (.int .u8 0) := by simp [arr]
              rw [← Array.getElem?_toList, this, Nat.zero_add, List.getElem?_append_left (by simpa using hk)]
              exact hv
            · obtain ⟨bb, _, rfl⟩ := List.mem_map.1 (List.mem_of_getElem? hv)
              exact .int _ _
          · refine VRel.slice H.next 0 ⟨w.heap.size, 0, 1, arr.size⟩ _ _ _ (Inj.add_same _ _ _) (Nat.le_refl _) hcap (.inr ?_)
            simp [hasz]
        · cases h
      · cases h
    · cases h
  case h_6 c ho =>
    split at h
    · rename_i f hc
      have hf := hρ f (by simp [ho, Op.operands, Call.operands, hc])
      have ha : VRels μ (c.args.map ρ).toList (c.args.map ρ').toList := args_rel fun x hx => hρ x (by simp [ho, Op.operands, Call.operands, hc]; right; simpa using hx)
      rcases fnOf_sim (P := P) (w := w) hT hf ha h with ⟨g, as, as', fn, rfl, h1, h2, d, h3, h4⟩ | ⟨l, as, as', t, rfl, h0, h1, d, h3, h4⟩
      · exact ⟨as', fn, by simp [execOp, ho, resolve, hc, h3, h4], h1, h2⟩
      · exact ⟨as', t, h0, by simp [execOp, ho, resolve, hc, h3, h4], h1⟩
    · rename_i hc
      split at h
      · rename_i s x hargs
        have hs := hρ s (by simp [ho, Op.operands, Call.operands, hc, hargs])
        have hx := hρ x (by simp [ho, Op.operands, Call.operands, hc, hargs])
        obtain ⟨v, H', v', w', μ', rfl, k1, k2, k3, k4, k5⟩ := appendC_sim (P := P) hT hR hD o.type hs hx h
        have hmap : c.args.map ρ' = #[ρ' s, ρ' x] := by apply Array.ext'; simp [hargs]
        exact ⟨v', w', μ', .inl (by simp [execOp, ho, resolve, hc, invoke, builtin, hmap, k1]), k2, k3, k4, k5⟩
      · cases h
    · rename_i hc
      split at h
      · rename_i s x hargs
        have hs := hρ s (by simp [ho, Op.operands, Call.operands, hc, hargs])
        have hx := hρ x (by simp [ho, Op.operands, Call.operands, hc, hargs])
        obtain ⟨v, H', v', w', μ', rfl, k1, k2, k3, k4, k5⟩ := copyC_sim (P := P) hT hR hD o.type hs hx h
        have hmap : c.args.map ρ' = #[ρ' s, ρ' x] := by apply Array.ext'; simp [hargs]
        exact ⟨v', w', μ', .inl (by simp [execOp, ho, resolve, hc, invoke, builtin, hmap, k1]), k2, k3, k4, k5⟩
      · cases h
    · rename_i hc
      split at h
      · rename_i m k t hargs ht
        have hm := hρ m (by simp [ho, Op.operands, Call.operands, hc, hargs])
        have hk := hρ k (by simp [ho, Op.operands, Call.operands, hc, hargs])
        cases hs : deleteC T H t (ρ m) (ρ k) with
        | none => simp [hs] at h
        | some H' =>
          simp [hs] at h; subst h
          obtain ⟨w', k2, k3, k4⟩ := deleteC_sim (P := P) hT hR o.type ht hm hk hs
          have hmap : c.args.map ρ' = #[ρ' m, ρ' k] := by apply Array.ext'; simp [hargs]
          exact ⟨_, w', μ, .inl (by simp [execOp, ho, resolve, hc, invoke, builtin, hmap, k2]), k3, .tuple _ _ .nil, ⟨by rw [k4]; exact hD.ng, by rw [k4]; exact hD.fresh⟩, .same k4⟩
      · cases h
    · rename_i hc
      split at h
      · rename_i x hargs
        have hx := hρ x (by simp [ho, Op.operands, Call.operands, hc, hargs])
        split at h
        · rename_i t v hxa
          simp at h; subst h
          rw [hxa] at hx
          have hmap : c.args.map ρ' = #[ρ' x] := by apply Array.ext'; simp [hargs]
          generalize hx' : ρ' x = x' at hx hmap
          cases hx with
          | iface _ _ v' hv => exact ⟨.iface t v', by simp [execOp, ho, resolve, hc, invoke, builtin, hmap, Instr.panic], .iface _ _ _ hv⟩
        · cases h
      · cases h
    · cases h
  case h_7 c ho =>
    split at h
    · rename_i f hc
      have hf := hρ f (by simp [ho, Op.operands, Call.operands, hc])
      have ha : VRels μ (c.args.map ρ).toList (c.args.map ρ').toList := args_rel fun x hx => hρ x (by simp [ho, Op.operands, Call.operands, hc]; right; simpa using hx)
      unfold dfrOf at h
      split at h
      · rename_i g first captured hfa
        simp at h; subst h
        rw [hfa] at hf
        generalize hf' : ρ' f = f' at hf
        cases hf with
        | func _ _ _ a' c' h1 h2 =>
          refine ⟨{ target := .fn (.func g) c', args := a' ++ c.args.map ρ' }, by simp [execOp, ho, resolve, hc, hf', Deferred.ofValue], .fn _ _ _ _ _ h2 ?_, c, ho⟩
          simp only [Array.toList_append]; exact h1.append ha
      · cases h
    · cases h
  case h_8 x ho =>
    have hx := hρ x (by simp [ho, Op.operands])
    split at h
    · rename_i t v hxa
      simp at h; subst h
      rw [hxa] at hx
      generalize hx' : ρ' x = x' at hx
      cases hx with
      | iface _ _ v' hv => exact ⟨.iface t v', by simp [execOp, ho, hx', Instr.panic], .iface _ _ _ hv⟩
    · cases h
  case h_9 => cases h

end
end Go.Ab
end
