/- The operations, all together. -/
import Derived.Test.YtmeagbopnliddaaGreatQLAM
import Derived.Test.YtmeagbopnliddaaGreatQJM
import Derived.Carry
set_option linter.unusedVariables false
set_option linter.unusedSimpArgs false
namespace Go.Qv
open Go.RowKit
section
variable {P : Program} {tb : Tb} {orc : Orc} {hs : List (Nat × HObj)} {nx : Nat} {β : Nat → Option Value} {F : Nat → Prop} {w : World} {C : World → Prop}

theorem VR.bool_inv {v : Value} {b : Bool} (h : VR β F w v (.bool b)) : v = .bool b := by cases h; rfl
theorem VR.int_inv {v : Value} {k : IntKind} {n : Int} (h : VR β F w v (.int k n)) : v = .int k n := by cases h; rfl
theorem VR.str_inv {v : Value} {b : ByteArray} (h : VR β F w v (.str b)) : v = .string b := by cases h; rfl
theorem VR.nils_inv {v : Value} (h : VR β F w v .nils) : v = .slice none 0 0 := by cases h; rfl
theorem VR.ptr_inv {v : Value} {id off : Nat} (h : VR β F w v (.ptr id off)) : ∃ b o, β id = some (.pointer (some ⟨b, o, none⟩)) ∧ v = .pointer (some ⟨b, o + off, none⟩) := by
  cases h; exact ⟨_, _, by assumption, rfl⟩
theorem VR.ep_inv {v : Value} {id sz off : Nat} {i : Int} (h : VR β F w v (.ep id sz i off)) : ∃ b n c, β id = some (.slice (some ⟨b, 0, none⟩) n c) ∧ v = .pointer (some ⟨b, i.toNat * sz + off, none⟩) := by
  cases h; exact ⟨_, _, _, by assumption, rfl⟩
theorem VR.fn_inv {v : Value} {f : FuncId} {l : List AV} (h : VR β F w v (.fn f l)) : ∃ cs, v = .func (.func f) #[] cs ∧ cs.size = l.length ∧ ∀ (j : Nat) (v : Value) (x : AV), cs[j]? = some v → l[j]? = some x → VR β F w v x := by
  cases h; exact ⟨_, rfl, by assumption, by assumption⟩
theorem VR.tup_inv {v : Value} {l : List AV} (h : VR β F w v (.tup l)) : ∃ cs, v = .tuple cs ∧ cs.size = l.length ∧ ∀ (j : Nat) (v : Value) (x : AV), cs[j]? = some v → l[j]? = some x → VR β F w v x := by
  cases h; exact ⟨_, rfl, by assumption, by assumption⟩
theorem beqT {a b : Nat} (h : a.beq b = true) : a = b := Nat.eq_of_beq_eq_true h
theorem evo_ok (htb : TbOk P tb) (horc : OrcOk P orc C) {x : Oper} {a : Act} {xs : List AV} (hp : Pre hs nx β F w) (hC : C w) (hlen : xs.length = x.op.operands.toList.length)
    (hx : ∀ (j : Nat) (y : Operand) (z : AV), x.op.operands.toList[j]? = some y → xs[j]? = some z → VR β F w (a.eval y) z)
    {K : Act → World → Prop} {Q : Exit → Act → World → Prop}
    (h : (evo O.real tb orc nx x.op xs hs).sat (fun E => ∀ v' β' F' w', Post hs nx E β F w v' β' F' w' → K (a.put x.dst v') w')) : x.wp P a w K Q := by
  have pure_ : ∀ {v : Value} {z : AV}, (execOp a.eval x).run P w = .ok (.value v) w → VR β F w v z → (pure1 z).sat (fun E => ∀ v' β' F' w', Post hs nx E β F w v' β' F' w' → K (a.put x.dst v') w') → x.wp P a w K Q :=
    fun hr hv hk => wp_val hr (hk _ _ _ _ (Post.pure hp hv))
  obtain ⟨dst, op, type, pos, after, guard⟩ := x
  simp only at *
  cases op <;> simp only [evo] at h <;> first | exact h.elim | skip
  case move y =>
    split at h
    · rename_i z
      exact pure_ (by simp [execOp]) (hx 0 y z (by simp [Op.operands]) rfl) h
    · exact h.elim
  case assign y =>
    split at h
    · rename_i z
      exact pure_ (by simp [execOp]) (hx 0 y z (by simp [Op.operands]) rfl) h
    · exact h.elim
  case binOp b t y1 y2 t2 =>
    split at h
    · split at h
      · rename_i u0 _ _ _ _ _ _ _ _ htt
        have hk0 := kdIs (htb.1 _ _ htt)
        simp only [KdIs] at hk0
        obtain ⟨m0, hk0⟩ := hk0
        have hv1 := hx 0 y1 _ (by simp [Op.operands]) rfl
        have hv2 := hx 1 _ _ (by simp [Op.operands]; rfl) rfl
        have e1 : a.eval y1 = .nilIface := by generalize a.eval y1 = q at hv1; cases hv1; rfl
        have e2 : a.eval (.const u0) = .nilIface := by generalize a.eval (.const u0) = q at hv2; cases hv2; rfl
        have heq : (Op.equal t .nilIface .nilIface).run P w = .ok true w := by
          unfold Op.equal Op.maxDepth Op.equalIn; simp [run_underlying hk0]
        rcases eqB_sat h with ⟨rfl, h'⟩ | ⟨rfl, h'⟩
        · exact pure_ (v := .bool true) (by simp [execOp, e1, e2, eqGuard, binOp, Sem.run_bind, heq]) (.bool _) h'
        · exact pure_ (v := .bool false) (by simp [execOp, e1, e2, eqGuard, binOp, Sem.run_bind, heq]) (.bool _) h'
      · exact h.elim
    · rename_i z1 z2 _
      obtain ⟨r, z, h1, h2, h3⟩ := bin_ok (ox := y1) (oy := y2) htb (hx 0 y1 z1 (by simp [Op.operands]) rfl) (hx 1 y2 z2 (by simp [Op.operands]) rfl) hp h
      exact wp_val (by simp only [execOp, Sem.run_bind, h1, Result.andThen_ok, Sem.run_pure]) (h3 _ _ _ _ (Post.pure hp h2))
    · exact h.elim
  case unOp u t y =>
    split at h
    · rename_i b
      have hv := hx 0 y _ (by simp [Op.operands]) rfl
      have he : a.eval y = .bool b := hv.bool_inv
      exact pure_ (v := .bool (!b)) (by simp [execOp, he, Op.unary]) (.bool _) h
    · rename_i k n
      have hv := hx 0 y _ (by simp [Op.operands]) rfl
      have he : a.eval y = .int k n := hv.int_inv
      exact pure_ (v := .int k (k.wrap (0 - n))) (by simp [execOp, he, Op.unary, Op.intArith]) (.int _ _) h
    · rename_i k n
      have hv := hx 0 y _ (by simp [Op.operands]) rfl
      have he : a.eval y = .int k n := hv.int_inv
      exact pure_ (v := .int k (O.real.ixor k (match k.signed with | true => -1 | false => k.max) n)) (by cases k <;> simp [execOp, he, Op.unary, Op.intBits, O.real, IntKind.signed]) (.int _ _) h
    · exact h.elim
  case alloc t =>
    split at h
    · rename_i d hd
      obtain ⟨i, u, z, hi, hu, hs1, hb1, hs0, hb0, hk, hz, hzz, hzl⟩ := tyOk_parts (htb.1 _ _ hd)
      refine wp_val (v := .pointer (some ⟨w.heap.size, 0, none⟩)) (w' := w.alloc (.cells z.cells t)) ?_ (h _ _ _ _ (Post.alloc hp z.cells t d.zero ?_ ?_))
      · simp [execOp, Instr.alloc, zeroValue, typeInfo, hi, hz, newVar, newRow]
      · have := zoks_len hzz; simp at this; omega
      · intro j x hj
        have hj' : j < z.cells.toList.length := by rw [zoks_len hzz]; exact (List.getElem?_eq_some_iff.1 hj).1
        have hzk := zoks_at hzz j _ x (List.getElem?_eq_getElem hj') hj
        exact ⟨(zok_one hzk).1, _, by rw [← Array.getElem?_toList]; exact List.getElem?_eq_getElem hj', zok_vr hzk⟩
    · exact h.elim
  case makeSlice t y1 y2 =>
    split at h
    · rename_i e k sz by_ ze fs ky cl_ ms_ fz_ k1 n k2 c hd
      have hk := htb.1 _ _ hd
      split at h
      · rename_i d hde
        split at h
        · rename_i hb1
          simp only [Bool.and_eq_true] at hb1
          obtain ⟨hnc, hfit, h⟩ := h
          have hnc : n = c := hnc
          subst hnc
          have hfit : 0 ≤ n ∧ n * (d.bytes : Int) ≤ 140737488355328 := hfit
          have v1 := (hx 0 y1 _ (by simp [Op.operands]) rfl).int_inv
          have v2 := (hx 1 y2 _ (by simp [Op.operands]) rfl).int_inv
          obtain ⟨w', v', e1, e2⟩ := makeSlice_ok (k1 := k1) (k2 := k2) hp hk rfl (htb.1 _ _ hde) (beqT hb1.1) hb1.2 hfit.1 hfit.2
          exact wp_val (by simp only [execOp, v1, v2, Sem.run_bind, e1, Result.andThen_ok, Sem.run_pure]) (h _ _ _ _ e2)
        · exact h.elim
      · exact h.elim
    · rename_i e sz by_ ze fs ky cl_ ms_ fz_ k1 n k2 c hd
      have hk := htb.1 _ _ hd
      split at h
      · rename_i d hde
        split at h
        · rename_i hb1
          simp only [Bool.and_eq_true] at hb1
          obtain ⟨hnc, hfit, h⟩ := h
          have hnc : n = c := hnc
          subst hnc
          have hfit : 0 ≤ n ∧ n * (d.bytes : Int) ≤ 140737488355328 := hfit
          have v1 := (hx 0 y1 _ (by simp [Op.operands]) rfl).int_inv
          have v2 := (hx 1 y2 _ (by simp [Op.operands]) rfl).int_inv
          obtain ⟨w', v', e1, e2⟩ := makeSliceV_ok (k1 := k1) (k2 := k2) hp hk rfl (htb.1 _ _ hde) (beqT hb1.1) hb1.2 hfit.1 hfit.2
          exact wp_val (by simp only [execOp, v1, v2, Sem.run_bind, e1, Result.andThen_ok, Sem.run_pure]) (h _ _ _ _ e2)
        · exact h.elim
      · exact h.elim
    · exact h.elim
  case makeMap t rs =>
    split at h
    · split at h
      · refine wp_val (v := .map (some w.heap.size)) (w' := w.alloc (.map #[] 0)) ?_ (h _ _ _ _ (Post.newset hp))
        simp [execOp, run_makeMap]
      · refine wp_val (v := .map (some w.heap.size)) (w' := w.alloc (.map #[] 0)) ?_ (h _ _ _ _ (Post.newmap hp))
        simp [execOp, run_makeMap]
    · exact h.elim
  case lookup t y1 y2 ok =>
    split at h
    · rename_i sz by_ ze fs kt et ag ks id k htt
      have hk0 := kdIs (htb.1 _ _ htt)
      simp only [KdIs] at hk0
      have KK := htb.2.1 _ _ _ _ _ _ htt rfl
      split at h
      · rename_i _ _ ps d hl hd
        split at h
        · rename_i hb
          simp only [Bool.and_eq_true] at hb
          obtain ⟨⟨hk1, hk2⟩, h⟩ := h
          obtain ⟨r, e1, e2⟩ := lookup_ok (ok := ok) KK hk0 hp (lk_mem hl) (htb.1 _ _ hd) (hx 0 y1 _ (by simp [Op.operands]) rfl) (hx 1 y2 _ (by simp [Op.operands]) rfl) hb.1 hb.2 hk1 hk2
          have fin : ∀ (x : AV), VR β F w r x → (pairT ok x (findK k ps).isSome).sat (fun E => ∀ v' β' F' w', Post hs nx E β F w v' β' F' w' → K (a.put dst v') w') → Oper.wp P ⟨dst, .lookup t y1 y2 ok, type, pos, after, guard⟩ a w K Q := by
            intro x hxr h
            refine wp_val (v := if ok then .tuple #[r, .bool (findK k ps).isSome] else r) (w' := w) (by simp only [execOp, Sem.run_bind, e1, Result.andThen_ok, Sem.run_pure]) ?_
            cases ok with
            | true => exact h _ _ _ _ (Post.pure hp (.tup #[r, .bool (findK k ps).isSome] _ rfl (fun j v z hv hz => by
                match j, hv, hz with
                | 0, hv, hz => simp at hv hz; subst hv; subst hz; exact hxr
                | 1, hv, hz => simp at hv hz; subst hv; subst hz; exact .bool _
                | j + 2, hv, hz => simp at hz)))
            | false => exact h _ _ _ _ (Post.pure hp hxr)
          split at h
          · rename_i x hf
            exact fin x (e2 x (.inl hf)) (by rw [hf]; exact h)
          · rename_i hf
            split at h
            · rename_i z hz
              exact fin z (e2 z (.inr ⟨hf, hz⟩)) (by rw [hf]; exact h)
            · exact h.elim
        · exact h.elim
      · rename_i _ _ l d hl hd
        split at h
        · rename_i s hb
          obtain ⟨⟨hk1, hk2⟩, h⟩ := h
          obtain ⟨rfl, rfl, d', hd', hz⟩ := strSet_ok hb
          rw [hd] at hd'
          injection hd' with hd'
          subst hd'
          obtain ⟨r, e1, e2⟩ := lookup_sset KK hk0 hp (lk_mem hl) (htb.1 _ _ hd) hz (hx 0 y1 _ (by simp [Op.operands]) rfl) (hx 1 y2 _ (by simp [Op.operands]) rfl) hk1 hk2
          exact wp_val (v := r) (w' := w) (by simp only [execOp, Sem.run_bind, e1, Result.andThen_ok, Sem.run_pure]) (h _ _ _ _ (Post.pure hp e2))
        · exact h.elim
      · exact h.elim
    · rename_i sz by_ ze fs kt et ag ks k htt
      have hk0 := kdIs (htb.1 _ _ htt)
      simp only [KdIs] at hk0
      have KK := htb.2.1 _ _ _ _ _ _ htt rfl
      split at h
      · rename_i d hd
        split at h
        · rename_i z hb hz
          obtain ⟨hk1, h⟩ := h
          have hv := hx 0 y1 _ (by simp [Op.operands]) rfl
          have hv' : a.eval y1 = .map none := by generalize a.eval y1 = q at hv; cases hv; rfl
          obtain ⟨r, e1, e2⟩ := lookup_nil (ok := ok) KK hk0 (htb.1 _ _ hd) (hx 1 y2 _ (by simp [Op.operands]) rfl) hb hk1 hz
          refine wp_val (v := if ok then .tuple #[r, .bool false] else r) (w' := w) (by simp only [execOp, hv', Sem.run_bind, e1, Result.andThen_ok, Sem.run_pure]) ?_
          cases ok with
          | true => exact h _ _ _ _ (Post.pure hp (.tup #[r, .bool false] _ rfl (fun j v z hv hz => by
              match j, hv, hz with
              | 0, hv, hz => simp at hv hz; subst hv; subst hz; exact e2
              | 1, hv, hz => simp at hv hz; subst hv; subst hz; exact .bool _
              | j + 2, hv, hz => simp at hz)))
          | false => exact h _ _ _ _ (Post.pure hp e2)
        · exact h.elim
      · exact h.elim
    · exact h.elim
  case mapUpdate t y1 y2 y3 =>
    split at h
    · rename_i sz by_ ze fs kt et ag ks id k x htt
      have hk0 := kdIs (htb.1 _ _ htt)
      simp only [KdIs] at hk0
      have KK := htb.2.1 _ _ _ _ _ _ htt rfl
      split at h
      · rename_i c bs ps hl
        split at h
        · rename_i hb
          simp only [Bool.and_eq_true] at hb
          obtain ⟨⟨hk1, hk2⟩, h⟩ := h
          obtain ⟨w', e1, e2⟩ := mapUpdate_ok KK hk0 hp (lk_mem hl) (hx 0 y1 _ (by simp [Op.operands]) rfl) (hx 1 y2 _ (by simp [Op.operands]) rfl) (hx 2 y3 _ (by simp [Op.operands]) rfl) hb.1 hb.2 hk1 hk2
          have := h _ _ _ _ e2
          unfold Oper.wp
          simp only [execOp, Sem.run_bind, e1, Result.andThen_ok, Sem.run_pure]
          exact this
        · exact h.elim
      · rename_i l hl
        split at h
        · rename_i s hb
          obtain ⟨⟨hk1, hk2⟩, h⟩ := h
          obtain ⟨rfl, rfl, _⟩ := strSet_ok hb
          obtain ⟨w', e1, e2⟩ := mapUpdate_sset KK hk0 hp (lk_mem hl) (hx 0 y1 _ (by simp [Op.operands]) rfl) (hx 1 y2 _ (by simp [Op.operands]) rfl) (hx 2 y3 _ (by simp [Op.operands]) rfl) hk1 hk2
          have := h _ _ _ _ e2
          unfold Oper.wp
          simp only [execOp, Sem.run_bind, e1, Result.andThen_ok, Sem.run_pure]
          exact this
        · exact h.elim
      · exact h.elim
    · exact h.elim
  case mapEntry t y1 y2 =>
    split at h
    · rename_i htt
      have hk0 := kdIs (htb.1 _ _ htt)
      simp only [KdIs] at hk0
      have KK := htb.2.1 _ _ _ _ _ _ htt rfl
      split at h
      · rename_i c bs ps d hl hd
        split at h
        · rename_i hb
          simp only [Bool.and_eq_true] at hb
          split at h
          · rename_i x j hf hj
            split at h
            · rename_i b hbj
              obtain ⟨⟨hk1, hk2⟩, h⟩ := h
              obtain ⟨r, w', e1, e2⟩ := mapEntry_some KK hk0 hp (lk_mem hl) (hx 0 y1 _ (by simp [Op.operands]) rfl) (hx 1 y2 _ (by simp [Op.operands]) rfl) hb.1 hb.2 hk1 hk2 hf hj hbj
              exact wp_val (by simp only [execOp, Sem.run_bind, e1, Result.andThen_ok, Sem.run_pure]) (h _ _ _ _ e2)
            · exact h.elim
          · rename_i hf
            split at h
            · rename_i z hz
              obtain ⟨⟨hk1, hk2⟩, h⟩ := h
              obtain ⟨r, w', e1, e2⟩ := mapEntry_none KK hk0 hp (lk_mem hl) (htb.1 _ _ hd) (hx 0 y1 _ (by simp [Op.operands]) rfl) (hx 1 y2 _ (by simp [Op.operands]) rfl) hb.1 hb.2 hk1 hk2 hf hz
              exact wp_val (by simp only [execOp, Sem.run_bind, e1, Result.andThen_ok, Sem.run_pure]) (h _ _ _ _ e2)
            · exact h.elim
          · exact h.elim
        · exact h.elim
      · exact h.elim
    · exact h.elim
  case entryStore t y1 y2 y3 =>
    split at h
    · split at h
      · rename_i c bs ps hl
        split at h
        · rename_i j hj
          split at h
          · rename_i k x0 hpj
            obtain ⟨w', e1, e2⟩ := entryStore_ok (P := P) (t := t) hp (lk_mem hl) (hx 0 y1 _ (by simp [Op.operands]) rfl) (hx 1 y2 _ (by simp [Op.operands]) rfl) (hx 2 y3 _ (by simp [Op.operands]) rfl) hj hpj
            have := h _ _ _ _ e2
            unfold Oper.wp
            simp only [execOp, Sem.run_bind, e1, Result.andThen_ok, Sem.run_pure]
            exact this
          · exact h.elim
        · exact h.elim
      · exact h.elim
    · exact h.elim
  case convert src dst2 y =>
    split at h
    · rename_i kk _ _ _ _ _ _ _ _ kn n hs0 hd0
      have hd2 := kdIs (htb.1 _ _ hd0)
      simp only [KdIs] at hd2
      obtain ⟨i, us, z, g1, g2, _⟩ := tyOk_parts (htb.1 _ _ hs0)
      have he := (hx 0 y _ (by simp [Op.operands]) rfl).int_inv
      refine pure_ (v := .int kk (kk.wrap n)) ?_ (.int _ _) h
      simp [execOp, he, convert, Sem.run_bind, run_underlying g2, run_underlying hd2, Conv.intToInt]
    · rename_i e k _ _ _ _ _ _ _ _ _ _ _ _ _ _ _ _ z hs0 hd0
      have hs2 := kdIs (htb.1 _ _ hs0)
      simp only [KdIs] at hs2
      have hd2 := kdIs (htb.1 _ _ hd0)
      simp only [KdIs] at hd2
      split at h
      · rename_i l he0 hl
        have he2 := kdIs (htb.1 _ _ he0)
        simp only [KdIs] at he2
        have e := convert_bytes (P := P) (fun p hp' => (hp.hh p hp').1) hs2 he2 hd2 hl (hx 0 y z (by simp [Op.operands]) rfl)
        exact pure_ (v := .string (O.real.bts l)) (by simp only [execOp, Sem.run_bind, e, Result.andThen_ok, Sem.run_pure]) (.str _) h
      · exact h.elim
    · exact h.elim
  case box t y =>
    split at h
    · rename_i z d hd
      split at h
      · rename_i hb
        have hb := beqT hb
        have hv := hx 0 y z (by simp [Op.operands]) rfl
        obtain ⟨i, u, zz, hi, hu, hs1, hb1, hs0, _⟩ := tyOk_parts (htb.1 _ _ hd)
        obtain ⟨c1, c2, c3⟩ := hv.cells (by omega)
        exact wp_val (v := .pointer (some ⟨w.heap.size, 0, none⟩)) (w' := w.alloc (.cells (a.eval y).cells t)) (by simp [execOp, Instr.box, newVar, newRow])
          (h _ _ _ _ (Post.alloc hp (a.eval y).cells t (cellsOf z) (by omega) c3))
      · exact h.elim
    · exact h.elim
  case fieldAddr s y f =>
    split at h
    · rename_i z sz by_ ze fs ky cl_ ms_ fz_ hd
      have hk := htb.1 _ _ hd
      split at h
      · rename_i off fsz g hf
        have hv := hx 0 y z (by simp [Op.operands]) rfl
        split at h
        · rename_i id o
          obtain ⟨b, o', h1, h2⟩ : ∃ b o', β id = some (.pointer (some ⟨b, o', none⟩)) ∧ a.eval y = .pointer (some ⟨b, o' + o, none⟩) := hv.ptr_inv
          exact pure_ (v := .pointer (some ⟨b, o' + o + off, none⟩)) (by simp only [execOp, h2, Sem.run_bind, fieldAt_ok hk rfl hf, Result.andThen_ok, Sem.run_pure]) (by rw [Nat.add_assoc]; exact .ptr _ _ _ _ h1) h
        · rename_i id sz' i o
          obtain ⟨b, n, c, h1, h2⟩ : ∃ b n c, β id = some (.slice (some ⟨b, 0, none⟩) n c) ∧ a.eval y = .pointer (some ⟨b, i.toNat * sz' + o, none⟩) := hv.ep_inv
          exact pure_ (v := .pointer (some ⟨b, i.toNat * sz' + o + off, none⟩)) (by simp only [execOp, h2, Sem.run_bind, fieldAt_ok hk rfl hf, Result.andThen_ok, Sem.run_pure]) (by rw [Nat.add_assoc]; exact .ep _ _ _ _ _ _ _ h1) h
        · rename_i cs
          split at h
          · rename_i hlt
            have hlt : off < cs.length := by have := Nat.le_of_ble_eq_true hlt; omega
            generalize hev : a.eval y = v at hv
            cases hv with
            | rp _ b o cv h1 h2 h3 h4 =>
              refine pure_ (v := .pointer (some ⟨b, o + off, none⟩)) (by simp only [execOp, hev, Sem.run_bind, fieldAt_ok hk rfl hf, Result.andThen_ok, Sem.run_pure]) (.rp _ b _ (fun j => cv (off + j)) h1 (fun j hj => ?_) (fun j x hj => ?_) (fun j x hj => ?_)) h
              · rw [List.length_drop] at hj; rw [Nat.add_assoc]; exact h2 _ (by omega)
              · rw [List.getElem?_drop] at hj; exact h3 _ _ hj
              · rw [List.getElem?_drop] at hj; exact h4 _ _ hj
          · exact h.elim
        · exact h.elim
      · exact h.elim
    · exact h.elim
  case nilCheck y =>
    split at h
    · rename_i id o
      have hv := hx 0 y _ (by simp [Op.operands]) rfl
      generalize hev : a.eval y = v at hv
      cases hv with
      | ptr _ _ b o' h1 => exact pure_ (by simp [execOp, hev]) (.ptr _ _ _ _ h1) h
    · rename_i id sz i o
      have hv := hx 0 y _ (by simp [Op.operands]) rfl
      generalize hev : a.eval y = v at hv
      cases hv with
      | ep _ _ _ _ b n c h1 => exact pure_ (by simp [execOp, hev]) (.ep _ _ _ _ _ _ _ h1) h
    · rename_i cs
      have hv := hx 0 y _ (by simp [Op.operands]) rfl
      generalize hev : a.eval y = v at hv
      cases hv with
      | rp _ b o cv h1 h2 h3 h4 => exact pure_ (by simp [execOp, hev]) (.rp _ b o cv h1 h2 h3 h4) h
    · exact h.elim
  case load t y =>
    split at h
    · rename_i z d hd
      have hk := htb.1 _ _ hd
      have hv := hx 0 y z (by simp [Op.operands]) rfl
      generalize hev : a.eval y = v at hv
      have fin : ∀ {b o : Nat} {cv : Nat → Value} {cs : List AV}, v = .pointer (some ⟨b, o, none⟩) → (∀ j, j < cs.length → w.cell? ⟨b, o + j, none⟩ = some (cv j)) → (∀ x ∈ cs, x.one = true) → (∀ (j : Nat) (x : AV), cs[j]? = some x → VR β F w (cv j) x) →
          (match Nat.beq cs.length d.size, mkAgg d.kd.agg cs with | true, some v => pure1 v | _, _ => T.stuck "load: cells").sat (fun E => ∀ v' β' F' w', Post hs nx E β F w v' β' F' w' → K (a.put dst v') w') → Oper.wp P ⟨dst, .load t y, type, pos, after, guard⟩ a w K Q := by
        intro b o cv cs hv hc h1 h2 h3
        split at h3
        · rename_i z' hb hm
          have hb := beqT hb
          obtain ⟨r, e1, e2⟩ := loadAt_ok hk (fun j hj => hc j (by omega)) hb h1 h2 hm
          exact pure_ (by simp only [execOp, hev, hv, Sem.run_bind, e1, Result.andThen_ok, Sem.run_pure]) e2 h3
        · exact h3.elim
      split at h
      · rename_i id o
        split at h
        · rename_i l hl
          obtain ⟨hO, _⟩ := hp.hh _ (lk_mem hl)
          obtain ⟨b, o', e1, cv, e2, e3⟩ := hO.cells_at hv
          refine fin e1 (cs := (l.drop o).take d.size) (cv := cv) (fun j hj => ?_) (fun x hx' => ?_) (fun j x hj => ?_) h
          · simp at hj; exact e2 j (by omega)
          · obtain ⟨j, hj, rfl⟩ := List.getElem_of_mem (List.mem_of_mem_take hx')
            exact (e3 j _ (List.getElem?_eq_getElem hj)).1
          · rw [List.getElem?_take] at hj
            split at hj
            · exact (e3 j x hj).2
            · cases hj
        · exact h.elim
      · rename_i id sz i o
        split at h
        · rename_i e c hl
          split at h
          · rename_i hb
            have hb := beqT hb
            subst hb
            obtain ⟨hi, h⟩ := h
            obtain ⟨hO, _⟩ := hp.hh _ (lk_mem hl)
            cases hv with
            | ep _ _ _ _ b n cp hbeta =>
              obtain ⟨cv, e1, e2⟩ := hO.arr_at hbeta hi
              have hcok : c.ok := by obtain ⟨_, _, _, _, h, _⟩ := hO; exact h
              have hgl := oget_length hcok hi
              refine fin (cv := fun j => cv (o + j)) rfl (cs := ((c.oget O.real i).drop o).take d.size) (fun j hj => ?_) (fun x hx' => oget_one hcok hi x (List.mem_of_mem_drop (List.mem_of_mem_take hx'))) (fun j x hj => ?_) h
              · simp at hj; rw [Nat.add_assoc]; exact e1 _ (by omega)
              · rw [List.getElem?_take] at hj
                split at hj
                · rw [List.getElem?_drop] at hj; exact e2 _ _ hj
                · cases hj
          · exact h.elim
        · exact h.elim
      · rename_i cs
        cases hv with
        | rp _ b o cv h1 h2 h3 h4 =>
          refine fin rfl (cs := cs.take d.size) (cv := cv) (fun j hj => h2 j (by simp at hj; omega)) (fun x hx' => ?_) (fun j x hj => ?_) h
          · obtain ⟨j, hj, rfl⟩ := List.getElem_of_mem (List.mem_of_mem_take hx')
            exact h3 j _ (List.getElem?_eq_getElem hj)
          · rw [List.getElem?_take] at hj
            split at hj
            · exact h4 j x hj
            · cases hj
      · exact h.elim
    · exact h.elim
  case store t y1 y2 =>
    split at h
    · rename_i id o z d hd
      have hk := htb.1 _ _ hd
      have hv := hx 0 y1 _ (by simp [Op.operands]) rfl
      have hu := hx 1 y2 z (by simp [Op.operands]) rfl
      split at h
      · rename_i l hb hl
        have hb := beqT hb
        split at h
        · rename_i hr
          have hr := Nat.le_of_ble_eq_true hr
          obtain ⟨w', e1, e2⟩ := store_ok hp (lk_mem hl) hk hv hu hb hr
          have := h _ _ _ _ e2
          unfold Oper.wp
          simp only [execOp, Sem.run_bind, e1, Result.andThen_ok, Sem.run_pure]
          exact this
        · exact h.elim
      · exact h.elim
    · rename_i id sz i z d hd
      have hk := htb.1 _ _ hd
      have hv := hx 0 y1 _ (by simp [Op.operands]) rfl
      have hu := hx 1 y2 z (by simp [Op.operands]) rfl
      split at h
      · rename_i e c hl
        split at h
        · rename_i c1 hel
          split at h
          · rename_i c' hos hb
            simp only [Bool.and_eq_true, Bool.not_eq_true'] at hb
            obtain ⟨⟨hb1, hb2⟩, hb3⟩ := hb
            have hb1 := beqT hb1
            have hb2 := beqT hb2
            subst hb1
            obtain ⟨hi, h⟩ := h
            have hm := lk_mem hl
            obtain ⟨hO, _⟩ := hp.hh _ hm
            have hcok : c.ok := by obtain ⟨_, _, _, _, h, _⟩ := hO; exact h
            have hnil : RowR β (FZ z.owns β F) w [] c.nilOf := by
              refine ⟨by cases c <;> simp [LS.nilOf, LS.len], ?_, fun i el j x he => ?_⟩
              · cases c with
                | r sh xs => exact ⟨hcok.1, by simp⟩
                | _ => exact trivial
              · cases c <;> simp [LS.nilOf, LS.elems] at he
            obtain ⟨r1, r2, r3, r4⟩ := asEl_ok (fun p hp' => (hp.hh p hp').1) hnil hel hu (fun _ h => h)
            have hk1 : c1.ok := r1.2.1
            obtain ⟨el, o1, o2, o3, o4, o5, o6⟩ := oset_real hos hcok hk1
            have hidn : id ∉ z.owns := fun hm' => by rw [mem_true.2 hm'] at hb3; cases hb3
            have hz0 : c.nilOf.sz = c.sz := by cases c <;> rfl
            have hknown := asEl_known hel
            obtain ⟨w', e1, e2⟩ := arr_store hp hm hk hknown hidn (fun j hj y y' b a1 a2 a3 a4 => by
                obtain ⟨ob, hob⟩ := hknown j hj
                exact hp.hsep _ hob _ hm (fun e => hidn (by simp only at e; rw [← e]; exact hj)) y y' b a1 a2 a3 a4) hv hi hb2 (by rw [r2, hz0]) r4 (fun j x hj => by
                obtain ⟨u, u1, u2⟩ := r1.2.2 0 el j x (by rw [o1]; rfl) hj
                exact ⟨u, by simpa using u1, u2⟩) o2 o3 o5
            have := h _ _ _ _ e2
            unfold Oper.wp
            simp only [execOp, Sem.run_bind, e1, Result.andThen_ok, Sem.run_pure]
            exact this
          · exact h.elim
        · split at h
          · rename_i ys id' _
            split at h
            · rename_i c' hos hb
              simp only [Bool.and_eq_true] at hb
              have hb1 := beqT hb.1
              have hb2 := beqT hb.2
              subst hb1
              obtain ⟨hi, h⟩ := h
              have hm := lk_mem hl
              obtain ⟨hO, _⟩ := hp.hh _ hm
              have hcok : (LS.r [.any] ys).ok := by obtain ⟨_, _, _, _, h, _⟩ := hO; exact h
              have hk1 : (LS.r [.any] [[.own id']]).ok := ⟨by simp, by intro el hel; simp at hel; subst hel; rfl⟩
              obtain ⟨el, o1, o2, o3, o4, o5, o6⟩ := oset_real hos hcok hk1
              have e0 : el = [.own id'] := by simpa [LS.elems] using o1.symm
              subst e0
              have hu1 : (a.eval y2).cells = #[a.eval y2] ∧ (a.eval y2).oneCell' = true := by
                generalize a.eval y2 = vv at hu ⊢
                cases hu with
                | own _ _ hb hs' => obtain ⟨A, n, c, e⟩ := hs'; rw [e]; exact ⟨rfl, rfl⟩
              obtain ⟨w', e1, e2⟩ := arr_store (ids := []) hp hm hk (by simp) (by simp) (by simp) hv hi hb2 (by rw [hu1.1]; rfl) (by rw [hu1.1]; intro x hx; simp at hx; subst hx; exact hu1.2) (fun j x hj => by
                match j, hj with
                | 0, hj => simp at hj; subst hj; exact ⟨_, by rw [hu1.1]; rfl, hu.fz⟩
                | j + 1, hj => simp at hj) o2 o3 o5
              have := h _ _ _ _ e2
              unfold Oper.wp
              simp only [execOp, Sem.run_bind, e1, Result.andThen_ok, Sem.run_pure]
              exact this
            · exact h.elim
          · exact h.elim
      · exact h.elim
    · rename_i id sz i o z d hd
      have hk := htb.1 _ _ hd
      have hv := hx 0 y1 _ (by simp [Op.operands]) rfl
      have hu := hx 1 y2 z (by simp [Op.operands]) rfl
      split at h
      · rename_i e sh ys hl
        split at h
        · rename_i hb
          simp only [Bool.and_eq_true] at hb
          obtain ⟨⟨⟨hb1, hb2⟩, hb3⟩, hb4⟩ := hb
          have hb1 := beqT hb1
          subst hb1
          obtain ⟨hi, h⟩ := h
          obtain ⟨w', e1, e2⟩ := arr_store1 hp (lk_mem hl) hk hv hi (beqT hb2) (anyAt_ok hb3) hb4 hu
          have := h _ _ _ _ e2
          unfold Oper.wp
          simp only [execOp, Sem.run_bind, e1, Result.andThen_ok, Sem.run_pure]
          exact this
        · exact h.elim
      · exact h.elim
    · exact h.elim
  case build t ps =>
    split at h
    · rename_i d hd
      have hk := htb.1 _ _ hd
      split at h
      · rename_i n e hkd
        split at h
        · rename_i de hde
          split at h
          · rename_i l hb hl
            obtain ⟨v, e1, e2⟩ := build_arr_ok (ρ := a.eval) hk hkd (htb.1 _ _ hde) (Nat.le_of_ble_eq_true hb) hl (by simpa [Op.operands] using hlen) (fun j y z hy hz => hx j y.2 z (by simp only [Op.operands, List.getElem?_map]; rw [hy]; rfl) hz)
            exact pure_ (by simp only [execOp, Sem.run_bind, e1, Result.andThen_ok, Sem.run_pure]) e2 h
          · exact h.elim
        · exact h.elim
      · rename_i hkd
        split at h
        · rename_i l hl
          obtain ⟨v, e1, e2⟩ := build_ok (ρ := a.eval) hk hkd hl (by simpa [Op.operands] using hlen) (fun j y z hy hz => hx j y.2 z (by simp only [Op.operands, List.getElem?_map]; rw [hy]; rfl) hz)
          exact pure_ (by simp only [execOp, Sem.run_bind, e1, Result.andThen_ok, Sem.run_pure]) e2 h
        · exact h.elim
      · exact h.elim
    · exact h.elim
  case buildSlice t n ps =>
    split at h
    · rename_i e k sz by_ ze fs ky cl_ ms_ fz_ hd
      have hk := htb.1 _ _ hd
      split at h
      · split at h
        · rename_i d hde hb
          simp only [Bool.and_eq_true, beq_iff_eq, List.all_eq_true] at hb
          obtain ⟨⟨⟨hb1, hb2⟩, hb3⟩, hb4⟩ := hb
          split at h
          · rename_i hd1
            have hd1 := beqT hd1
            have hlen' : ps.toList.length = n := by have := congrArg List.length hb2; simpa using this
            obtain ⟨r1, r2⟩ := anyRows (β := β) (F := F) (w := w) (xs := xs) (vs := ps.toList.map fun p => a.eval p.2) (by simp only [List.length_map]; rw [hlen', beqT hb1]) hb4 (fun j v x hv hx' => by
              simp only [List.getElem?_map] at hv
              obtain ⟨y, hy, rfl⟩ := Option.map_eq_some_iff.1 hv
              exact hx j y.2 x (by simp only [Op.operands, List.getElem?_map]; rw [hy]; rfl) hx')
            obtain ⟨w', v', e1, e2⟩ := buildSlice_row (ρ := a.eval) (frz := []) hp hk rfl (htb.1 _ _ hde) r2.fz (fun v hv => by rw [r1 v hv, hd1]; rfl) hb2 hlen' (by rw [hd1]; rfl) (by rw [hd1]; have := Nat.le_of_ble_eq_true hb3; omega) (by simp)
            exact wp_val (by simp only [execOp, Sem.run_bind, e1, Result.andThen_ok, Sem.run_pure]) (h _ _ _ _ e2)
          · exact h.elim
        · exact h.elim
      split at h
      · rename_i d c hde hl
        split at h
        · rename_i hb
          simp only [Bool.and_eq_true, beq_iff_eq] at hb
          obtain ⟨⟨⟨hb1, hb2⟩, hb3⟩, hb4⟩ := hb
          have hknown : ∀ id ∈ xs.flatMap AV.owns, ∃ ob, (id, ob) ∈ hs := by
            intro id hid
            obtain ⟨x, hx1, hx2⟩ := List.mem_flatMap.1 hid
            have hl' := hl
            unfold asList at hl'
            split at hl'
            · exact asListFrom_known hl' x hx1 id hx2
            · cases hl'
          obtain ⟨w', v', e1, e2⟩ := buildSlice_ok (ρ := a.eval) hp hk rfl (htb.1 _ _ hde) hl (beqT hb1) hb2 (beqT hb3) (Nat.le_of_ble_eq_true hb4) (fun j y z hy hz => hx j y.2 z (by simp only [Op.operands, List.getElem?_map]; rw [hy]; rfl) hz) hknown
          split at h
          · rename_i hfz
            simp only [Bool.and_eq_true] at hfz
            exact wp_val (by simp only [execOp, Sem.run_bind, e1, Result.andThen_ok, Sem.run_pure]) (h _ _ _ _ (e2.frz1 hp hfz.1.2 (fun p hp' => (gone_mem hp').1) (fun id hid => (gone_mem hid).2)))
          · exact wp_val (by simp only [execOp, Sem.run_bind, e1, Result.andThen_ok, Sem.run_pure]) (h _ _ _ _ e2)
        · exact h.elim
      · exact h.elim
    · exact h.elim
  case field t y f =>
    split at h
    · rename_i l sz by_ ze fs ky cl_ ms_ fz_ hd
      have hk := htb.1 _ _ hd
      have hv := hx 0 y _ (by simp [Op.operands]) rfl
      split at h
      · rename_i off fsz g hf
        split at h
        · rename_i z hle hm
          have hle := Nat.le_of_ble_eq_true hle
          obtain ⟨r, e1, e2⟩ := field_ok hk rfl hf hv hm hle
          exact pure_ (by simp only [execOp, Sem.run_bind, e1, Result.andThen_ok, Sem.run_pure]) e2 h
        · exact h.elim
      · exact h.elim
    · exact h.elim
  case extract y i =>
    split at h
    · rename_i l
      have hv := hx 0 y _ (by simp [Op.operands]) rfl
      obtain ⟨cs, e1, e2, e3⟩ := hv.tup_inv
      split at h
      · rename_i z hz
        have hi : i < cs.size := by have := (List.getElem?_eq_some_iff.1 hz).1; omega
        exact pure_ (v := cs[i]) (by simp [execOp, e1, Instr.extract, hi]) (e3 i _ z (Array.getElem?_eq_getElem hi) hz) h
      · exact h.elim
    · exact h.elim
  case makeFunc fn first cap =>
    cases fn <;> simp only at h <;> first | exact h.elim | skip
    rename_i f
    split at h
    · rename_i hb
      have hb : first = #[] := by have := beqT hb; exact Array.eq_empty_of_size_eq_zero this
      subst hb
      have hl : xs.length = cap.size := by simpa [Op.operands] using hlen
      refine pure_ (v := .func (.func f) #[] (cap.map a.eval)) (by simp [execOp, Instr.makeFunc]) (.fn _ _ _ (by simp [hl]) (fun j v z hv hz => ?_)) h
      simp only [Array.getElem?_map] at hv
      obtain ⟨y, hy, rfl⟩ := Option.map_eq_some_iff.1 hv
      exact hx j y z (by simp [Op.operands, hy]) hz
    · exact h.elim
  case makeInterface t y =>
    split at h
    · exact h.elim
    · rename_i d z hnot hd
      have hk := htb.1 _ _ hd
      have hv := hx 0 y _ (by simp [Op.operands]) rfl
      obtain ⟨i, u, z0, hi, hu, hs1, hb1, hs0, hb0, hkd, _⟩ := tyOk_parts hk
      refine pure_ (v := .iface t (a.eval y)) ?_ (.iface _ _ _ hv) h
      have hni : ∀ m, u ≠ .interface m := by
        rintro m rfl
        obtain ⟨kd, s1, s2, s3, s4⟩ := d
        cases kd <;> simp [kdOk] at hkd
        exact hnot _ _ _ _ _ _ _ _ rfl
      have : (Instr.makeInterface t (a.eval y)).run P w = .ok (.iface t (a.eval y)) w := by
        simp only [Instr.makeInterface, Sem.run_bind, run_underlying hu, Result.andThen_ok]
        cases u <;> first | rfl | exact absurd rfl (hni _)
      simp only [execOp, Sem.run_bind, this, Result.andThen_ok, Sem.run_pure]
    · exact h.elim
  case indexAddr t y1 y2 =>
    split at h
    · rename_i e k sz by_ ze fs ky cl_ ms_ fz_ hd
      have hk := htb.1 _ _ hd
      split at h
      · rename_i d c ki i hde
        have hv := hx 0 y1 _ (by simp [Op.operands]) rfl
        have hi := (hx 1 y2 _ (by simp [Op.operands]) rfl).int_inv
        split at h
        · rename_i hb
          obtain ⟨hin, h⟩ := h
          obtain ⟨r, e1, e2⟩ := indexAt_sl (ki := ki) hk rfl (htb.1 _ _ hde) (beqT hb) hv hin
          exact pure_ (by simp only [execOp, hi, Sem.run_bind, e1, Result.andThen_ok, Sem.run_pure]) e2 h
        · exact h.elim
      · rename_i d id ki i hde
        have hv := hx 0 y1 _ (by simp [Op.operands]) rfl
        have hi := (hx 1 y2 _ (by simp [Op.operands]) rfl).int_inv
        split at h
        · rename_i e' c hl
          split at h
          · rename_i hb
            obtain ⟨hin, h⟩ := h
            obtain ⟨r, e1, e2⟩ := indexAt_own (ki := ki) hk rfl (htb.1 _ _ hde) (beqT hb) (hp.hh _ (lk_mem hl)).1 hv hin
            exact pure_ (by simp only [execOp, hi, Sem.run_bind, e1, Result.andThen_ok, Sem.run_pure]) e2 h
          · exact h.elim
        · exact h.elim
      · exact h.elim
    · rename_i n e sz by_ ze fs ky cl_ ms_ fz_ hd
      split at h
      · rename_i d id o0 ki i hde
        have hv := hx 0 y1 _ (by simp [Op.operands]) rfl
        have hi := (hx 1 y2 _ (by simp [Op.operands]) rfl).int_inv
        obtain ⟨⟨hi0, hi1⟩, h⟩ := h
        have hk := kdIs (htb.1 _ _ hd)
        simp only [KdIs] at hk
        have hsz := run_size (htb.1 _ _ hde) w
        obtain ⟨b, o, hb, hev⟩ := hv.ptr_inv
        refine pure_ (v := .pointer (some ⟨b, o + (o0 + i.toNat * d.size), none⟩)) ?_ (.ptr id _ b o hb) h
        have hi1' : i < (n : Int) := hi1
        have hi0' : (0 : Int) ≤ i := hi0
        simp [execOp, Instr.indexAt, hi, hev, Sem.run_bind, asIntOf, run_underlying hk, Instr.sureAddr, hi0', hi1', hsz, Result.andThen, addr_add, Nat.add_assoc]
      · exact h.elim
    · exact h.elim
  case index t y1 y2 =>
    split at h
    · rename_i sz by_ ze fs ky cl_ ms_ fz_ s ki i hd
      have hk := kdIs (htb.1 _ _ hd)
      simp only [KdIs] at hk
      have hv := (hx 0 y1 _ (by simp [Op.operands]) rfl).str_inv
      have hi := (hx 1 y2 _ (by simp [Op.operands]) rfl).int_inv
      obtain ⟨⟨h0, h1⟩, h⟩ := h
      have h1 : i < (s.size : Int) := h1
      have hlt : i.toNat < s.size := by omega
      have hsat : O.real.sat_ s i = ((s[i.toNat]'hlt).toNat : Int) := by simp [O.real, getElem?_pos, hlt]
      refine pure_ (v := .int .u8 ((s[i.toNat]'hlt).toNat : Int)) ?_ (.int _ _) (by rw [← hsat]; exact h)
      simp [execOp, hv, hi, Instr.index, asIntOf, run_underlying hk, h0, getElem?_pos, hlt]
    · rename_i n e sz by_ ze fs ky cl_ ms_ fz_ l ki i hd
      have hv := hx 0 y1 _ (by simp [Op.operands]) rfl
      have hi := (hx 1 y2 _ (by simp [Op.operands]) rfl).int_inv
      split at h
      · rename_i d z hte hz
        split at h
        · rename_i hc
          simp only [Bool.and_eq_true, Bool.not_eq_true', Nat.beq_eq] at hc
          obtain ⟨⟨h0, h1⟩, h⟩ := h
          obtain ⟨r, e1, e2⟩ := indexArr_ok (ki := ki) (htb.1 _ _ hd) rfl (htb.1 _ _ hte) hc.2 hc.1 hv h0 h1 hz
          exact pure_ (by simp only [execOp, hi, Sem.run_bind, e1, Result.andThen_ok, Sem.run_pure]) e2 h
        · exact h.elim
      · exact h.elim
    · exact h.elim
  case slice t y lo hi mx =>
    split at h
    · exact h.elim
    · have bnd : ∀ {n : Int} {z : AV} {l u : Int}, cutBounds xs lo.isSome hi.isSome n = some (z, l, u) → BndIs a.eval lo 0 l ∧ BndIs a.eval hi n u ∧ VR β F w (a.eval y) z ∧ ∃ r, xs = z :: r := by
        intro n z l u hb
        unfold cutBounds at hb
        split at hb <;> first | (cases hb; done) | skip
        · rename_i z' k1 l' k2 u' hlo hhi
          injection hb with hb
          injection hb with b1 b2
          injection b2 with b2 b3
          subst b1; subst b2; subst b3
          obtain ⟨lo', rfl⟩ := Option.isSome_iff_exists.1 hlo
          obtain ⟨hi', rfl⟩ := Option.isSome_iff_exists.1 hhi
          exact ⟨.inr ⟨lo', k1, rfl, (hx 1 lo' _ (by simp [Op.operands]) rfl).int_inv⟩, .inr ⟨hi', k2, rfl, (hx 2 hi' _ (by simp [Op.operands]) rfl).int_inv⟩, hx 0 y _ (by simp [Op.operands]) rfl, _, rfl⟩
        · rename_i z' k1 l' hlo hhi
          injection hb with hb
          injection hb with b1 b2
          injection b2 with b2 b3
          subst b1; subst b2; subst b3
          obtain ⟨lo', rfl⟩ := Option.isSome_iff_exists.1 hlo
          obtain rfl : hi = none := by cases hi <;> simp at hhi; rfl
          exact ⟨.inr ⟨lo', k1, rfl, (hx 1 lo' _ (by simp [Op.operands]) rfl).int_inv⟩, .inl ⟨rfl, rfl⟩, hx 0 y _ (by simp [Op.operands]) rfl, _, rfl⟩
        · rename_i z' k2 u' hlo hhi
          injection hb with hb
          injection hb with b1 b2
          injection b2 with b2 b3
          subst b1; subst b2; subst b3
          obtain ⟨hi', rfl⟩ := Option.isSome_iff_exists.1 hhi
          obtain rfl : lo = none := by cases lo <;> simp at hlo; rfl
          exact ⟨.inl ⟨rfl, rfl⟩, .inr ⟨hi', k2, rfl, (hx 1 hi' _ (by simp [Op.operands]) rfl).int_inv⟩, hx 0 y _ (by simp [Op.operands]) rfl, _, rfl⟩
      split at h
      · rename_i e k sz by_ ze fs ky cl_ ms_ fz_ c r hd
        have hk := htb.1 _ _ hd
        split at h
        · rename_i d z l u hde hb
          obtain ⟨b1, b2, b3, r', b4⟩ := bnd hb
          injection b4 with b4
          subst b4
          split at h
          · rename_i hs'
            obtain ⟨hcut, h⟩ := h
            obtain ⟨v, e1, e2⟩ := cut_ok hk rfl (htb.1 _ _ hde) (beqT hs') b3 b1 b2 hcut
            exact pure_ (by simp only [execOp, Option.map_none, Sem.run_bind, e1, Result.andThen_ok, Sem.run_pure]) e2 h
          · exact h.elim
        · exact h.elim
      · rename_i e k sz by_ ze fs ky cl_ ms_ fz_ id r hd
        have hk := htb.1 _ _ hd
        split at h
        · rename_i e' c hl
          split at h
          · rename_i d z l u hde hb
            obtain ⟨b1, b2, b3, r', b4⟩ := bnd hb
            injection b4 with b4
            subst b4
            split at h
            · rename_i hs'
              split at h
              · obtain ⟨hcut, h⟩ := h
                have hm := lk_mem hl
                have hsl : VR β (FZ [id] β F) w (a.eval y) (.sl c) := own_sl (hp.hh _ hm).1 b3 (by simp)
                obtain ⟨v, e1, e2⟩ := cut_ok hk rfl (htb.1 _ _ hde) (beqT hs') hsl b1 b2 hcut
                exact wp_val (by simp only [execOp, Option.map_none, Sem.run_bind, e1, Result.andThen_ok, Sem.run_pure]) (h _ _ _ _ (Post.frz hp (ids := [id]) (fun i hi' => by simp at hi'; subst hi'; exact ⟨_, hm⟩) e2))
              · split at h
                · rename_i hs1
                  obtain ⟨hcut, h⟩ := h
                  have hl0 : l = 0 := by
                    rcases b1 with ⟨_, e⟩ | ⟨x, k, e, _⟩
                    · exact e
                    · cases e
                  subst hl0
                  obtain ⟨v, e1, e2⟩ := prefix_ok (hi := hi) (ρ := a.eval) hp (lk_mem hl) hs1 hk rfl (htb.1 _ _ hde) (beqT hs') b3 b2 hcut
                  exact wp_val (by simp only [execOp, Option.map_none, Sem.run_bind, e1, Result.andThen_ok, Sem.run_pure]) (h _ _ _ _ e2)
                · rename_i lo' hs1
                  split at h
                  · obtain ⟨hcut, h⟩ := h
                    rcases b1 with ⟨e, _⟩ | ⟨x, kk, e, hlo'⟩
                    · cases e
                    · injection e with e
                      subst e
                      have hu0 : u = c.olen O.real := by
                        rcases b2 with ⟨_, e⟩ | ⟨x, k, e, _⟩
                        · exact e
                        · cases e
                      subst hu0
                      obtain ⟨v, e1, e2⟩ := view_ok (ρ := a.eval) (hp.hh _ (lk_mem hl)).1 hs1 hk rfl (htb.1 _ _ hde) (beqT hs') b3 hlo' hcut
                      exact pure_ (by simp only [execOp, Option.map_none, Option.map_some, Sem.run_bind, e1, Result.andThen_ok, Sem.run_pure]) e2 h
                  · exact h.elim
                · exact h.elim
            · exact h.elim
          · exact h.elim
        · exact h.elim
      · rename_i sz by_ ze fs ky cl_ ms_ fz_ s r hd
        have hk := htb.1 _ _ hd
        split at h
        · rename_i z l u hb
          obtain ⟨b1, b2, b3, r', b4⟩ := bnd hb
          injection b4 with b4
          subst b4
          obtain ⟨hcut, h⟩ := h
          have hv := b3.str_inv
          have e1 := cut_str (P := P) (w := w) hk rfl b1 b2 hcut
          exact pure_ (by simp only [execOp, Option.map_none, hv, Sem.run_bind, e1, Result.andThen_ok, Sem.run_pure]) (.str _) h
        · exact h.elim
      · exact h.elim
  case call c =>
    obtain ⟨callee, args, argTypes⟩ := c
    cases callee <;> simp only at h <;> first | exact h.elim | skip
    case builtin b =>
      have hxa : ∀ (j : Nat) (y : Operand) (z : AV), args.toList[j]? = some y → xs[j]? = some z → VR β F w (a.eval y) z := fun j y z hy hz => hx j y z (by simpa [Op.operands, Call.operands] using hy) hz
      have hla : xs.length = args.toList.length := by simpa [Op.operands, Call.operands] using hlen
      obtain ⟨cn, run_b⟩ : ∃ cn, (execOp a.eval ⟨dst, .call ⟨.builtin b, args, argTypes⟩, type, pos, after, guard⟩).run P w = (builtin b argTypes type cn (args.map a.eval)).run P w :=
        ⟨_, by simp only [execOp, resolve, Sem.run_bind, Sem.run_pure, Result.andThen_ok, invoke]; rfl⟩
      cases b <;> simp only at h <;> first | exact h.elim | skip
      case len =>
        split at h
        · rename_i t ht
          have hat : argTypes = #[t] := by apply Array.toList_inj.1; rw [ht]
          have one : ∀ {z : AV}, xs = [z] → ∃ y, args = #[y] ∧ VR β F w (a.eval y) z := by
            intro z hz
            rw [hz] at hla
            match hargs : args.toList, hla with
            | [y], _ => exact ⟨y, Array.toList_inj.1 hargs, hxa 0 y z (by rw [hargs]; rfl) (by rw [hz]; rfl)⟩
          have fin : ∀ {v : Value} {n : Nat} {y : Operand}, args = #[y] → a.eval y = v → ((∃ e A c, P.underlying t = some (.slice e) ∧ v = .slice A n c) ∨ ∃ s : ByteArray, P.underlying t = some .string ∧ v = .string s ∧ n = s.size) →
              (pure1 (.int .i64 (n : Int))).sat (fun E => ∀ v' β' F' w', Post hs nx E β F w v' β' F' w' → K (a.put dst v') w') → Oper.wp P ⟨dst, .call ⟨.builtin .len, args, argTypes⟩, type, pos, after, guard⟩ a w K Q := by
            intro v n y ha hv hd hk
            subst ha
            subst hat
            refine pure_ (v := .int .i64 (n : Int)) ?_ (.int _ _) hk
            rw [run_b]
            rcases hd with ⟨e, A, c, h1, rfl⟩ | ⟨s, h1, rfl, rfl⟩
            · simp [builtin, Builtin.len_, run_underlying h1, hv, goInt]
            · simp [builtin, Builtin.len_, run_underlying h1, hv, goInt]
          split at h
          · rename_i e k sz by_ ze fs ky cl_ ms_ fz_ c hd
            have hk := kdIs (htb.1 _ _ hd)
            simp only [KdIs] at hk
            obtain ⟨y, h1, h2⟩ := one rfl
            obtain ⟨A, cap, h3⟩ := h2.len_eq
            rw [olen_real] at h
            exact fin h1 h3 (.inl ⟨e, A, cap, hk, rfl⟩) h
          · rename_i e k sz by_ ze fs ky cl_ ms_ fz_ hd
            have hk := kdIs (htb.1 _ _ hd)
            simp only [KdIs] at hk
            obtain ⟨y, h1, h2⟩ := one rfl
            exact fin (n := 0) h1 h2.nils_inv (.inl ⟨e, none, 0, hk, rfl⟩) h
          · rename_i e k sz by_ ze fs ky cl_ ms_ fz_ id hd
            have hk := kdIs (htb.1 _ _ hd)
            simp only [KdIs] at hk
            obtain ⟨y, h1, h2⟩ := one rfl
            split at h
            · rename_i e' c hl
              obtain ⟨A, cap, h3, _⟩ := (hp.hh _ (lk_mem hl)).1.own_len h2
              rw [olen_real] at h
              exact fin h1 h3 (.inl ⟨e, A, cap, hk, rfl⟩) h
            · exact h.elim
          · rename_i sz by_ ze fs ky cl_ ms_ fz_ s hd
            have hk := kdIs (htb.1 _ _ hd)
            simp only [KdIs] at hk
            obtain ⟨y, h1, h2⟩ := one rfl
            exact fin (n := s.size) h1 h2.str_inv (.inr ⟨s, hk, rfl, rfl⟩) h
          · exact h.elim
        · exact h.elim
      case append =>
        split at h
        · rename_i t t' ht
          have hat : argTypes = #[t, t'] := by apply Array.toList_inj.1; rw [ht]
          split at h
          · rename_i e k sz by_ ze fs ky cl_ ms_ fz_ htt hd
            have htt := beqT htt
            subst htt
            have hk := htb.1 _ _ hd
            split at h
            · rename_i d z1 z2 hde
              have hte := htb.1 _ _ hde
              match hargs : args.toList, hla with
              | [y1, y2], _ =>
                have ha : args = #[y1, y2] := Array.toList_inj.1 hargs
                have hv1 := hxa 0 y1 z1 (by rw [hargs]; rfl) rfl
                have hv2 := hxa 1 y2 z2 (by rw [hargs]; rfl) rfl
                subst ha
                subst hat
                split at h
                · rename_i ys hys
                  obtain ⟨k2, hys⟩ := cLA_some hys
                  split at h
                  · rename_i hb _
                    obtain ⟨hfit, h⟩ := h
                    obtain ⟨v', w', e1, e2⟩ := append_nils hp hk rfl hte hys hv1 hv2 (beqT hb) hfit type
                    refine wp_val ?_ (h _ _ _ _ e2)
                    rw [run_b]
                    simp only [builtin, List.map_toArray, List.map_cons, List.map_nil, Sem.run_bind, e1, Result.andThen_ok, Sem.run_pure]
                  · rename_i id hb _
                    split at h
                    · rename_i e' zs hl
                      split at h
                      · rename_i c' hbb happ
                        obtain ⟨hfit, h⟩ := h
                        simp only [Bool.and_eq_true] at hbb
                        have hee := beqT hbb.1
                        subst hee
                        obtain ⟨v', w', e1, e2⟩ := append_own hp hk rfl hte hys (lk_mem hl) hv1 hv2 (beqT hb) happ hfit type
                        refine wp_val ?_ (h _ _ _ _ e2)
                        rw [run_b]
                        simp only [builtin, List.map_toArray, List.map_cons, List.map_nil, Sem.run_bind, e1, Result.andThen_ok, Sem.run_pure]
                      · exact h.elim
                    · exact h.elim
                  · exact h.elim
                · exact h.elim
            · exact h.elim
          · rename_i e _ _ _ _ _ _ _ _ htt hd
            have hk := htb.1 _ _ hd
            split at h
            · rename_i d z1 s hdt hde
              have hte := htb.1 _ _ hde
              have htu := htb.1 _ _ hdt
              match hargs : args.toList, hla with
              | [y1, y2], _ =>
                have ha : args = #[y1, y2] := Array.toList_inj.1 hargs
                have hv1 := hxa 0 y1 z1 (by rw [hargs]; rfl) rfl
                have hv2 := hxa 1 y2 (.str s) (by rw [hargs]; rfl) rfl
                subst ha
                subst hat
                have hs2 : a.eval y2 = .string s := by
                  generalize a.eval y2 = vv at hv2 ⊢
                  cases hv2; rfl
                split at h
                · rename_i hb _
                  obtain ⟨hfit, h⟩ := h
                  obtain ⟨v', w', e1, e2⟩ := text_nils (t' := t') hp hk rfl htu rfl hte hv1 (beqT hb) hfit type
                  refine wp_val ?_ (h _ _ _ _ e2)
                  rw [run_b]
                  simp only [builtin, List.map_toArray, List.map_cons, List.map_nil, hs2, Sem.run_bind, e1, Result.andThen_ok, Sem.run_pure]
                · rename_i id hb _
                  split at h
                  · rename_i e' zs hl
                    split at h
                    · rename_i hee
                      obtain ⟨hfit, h⟩ := h
                      have hee := beqT hee
                      subst hee
                      obtain ⟨v', w', e1, e2⟩ := text_own (t' := t') hp hk rfl htu rfl hte (lk_mem hl) hv1 (beqT hb) hfit type
                      refine wp_val ?_ (h _ _ _ _ e2)
                      rw [run_b]
                      simp only [builtin, List.map_toArray, List.map_cons, List.map_nil, hs2, Sem.run_bind, e1, Result.andThen_ok, Sem.run_pure]
                    · exact h.elim
                  · exact h.elim
                · exact h.elim
            · exact h.elim
          · exact h.elim
        · exact h.elim
      case delete =>
        split at h
        · rename_i t ts hts
          have hts0 : argTypes[0]? = some t := by rw [← Array.getElem?_toList, hts]; rfl
          split at h
          · rename_i id k htt
            have hk0 := kdIs (htb.1 _ _ htt)
            simp only [KdIs] at hk0
            have KK := htb.2.1 _ _ _ _ _ _ htt rfl
            split at h
            · rename_i c bs ps hl
              split at h
              · rename_i hb
                simp only [Bool.and_eq_true] at hb
                obtain ⟨⟨hk1, hk2⟩, h⟩ := h
                match hargs : args.toList, hla with
                | [y1, y2], _ =>
                  have ha : args = #[y1, y2] := Array.toList_inj.1 hargs
                  have hv1 := hxa 0 y1 _ (by rw [hargs]; rfl) rfl
                  have hv2 := hxa 1 y2 _ (by rw [hargs]; rfl) rfl
                  subst ha
                  obtain ⟨w', e1, e2⟩ := delete_ok (ty := type) KK hts0 hk0 hp (lk_mem hl) hv1 hv2 hb.1 hb.2 hk1 hk2
                  refine wp_val ?_ (h _ _ _ _ e2)
                  rw [run_b]
                  simp only [builtin, List.map_toArray, List.map_cons, List.map_nil, Sem.run_bind, e1, Result.andThen_ok, Sem.run_pure]
              · exact h.elim
            · exact h.elim
          · exact h.elim
        · exact h.elim
      case clear =>
        split at h
        · rename_i t ts hts
          have hts0 : argTypes[0]? = some t := by rw [← Array.getElem?_toList, hts]; rfl
          split at h
          · rename_i id sz0 lo htt
            split at h
            · rename_i hl hd hsz1
              split at h
              · rename_i hz hag
                have e1 := beqT hsz1
                subst e1
                match hargs : args.toList, hla with
                | [y1], _ =>
                  have ha : args = #[y1] := Array.toList_inj.1 hargs
                  have hv1 := hxa 0 y1 _ (by rw [hargs]; rfl) rfl
                  subst ha
                  obtain ⟨w', e1, e2⟩ := clear_ok (ty := type) hp (lk_mem hl) hts0 (htb.1 _ _ htt) rfl (htb.1 _ _ hd) hz hag hv1
                  refine wp_val ?_ (h _ _ _ _ e2)
                  rw [run_b]
                  simp only [builtin, List.map_toArray, List.map_cons, List.map_nil, Sem.run_bind, e1, Result.andThen_ok, Sem.run_pure]
              · exact h.elim
            · exact h.elim
          · exact h.elim
        · exact h.elim
      case max =>
        split at h
        · rename_i k n k' m
          match hargs : args.toList, hla with
          | [y1, y2], _ =>
            have ha : args = #[y1, y2] := Array.toList_inj.1 hargs
            have hv1 := (hxa 0 y1 _ (by rw [hargs]; rfl) rfl).int_inv
            have hv2 := (hxa 1 y2 _ (by rw [hargs]; rfl) rfl).int_inv
            subst ha
            refine pure_ (v := .int k (O.real.imax n m)) ?_ (.int _ _) h
            rw [run_b]
            simp [builtin, Builtin.max_, Builtin.max2, hv1, hv2, O.real]
        · exact h.elim
      case min =>
        split at h
        · rename_i k n k' m
          match hargs : args.toList, hla with
          | [y1, y2], _ =>
            have ha : args = #[y1, y2] := Array.toList_inj.1 hargs
            have hv1 := (hxa 0 y1 _ (by rw [hargs]; rfl) rfl).int_inv
            have hv2 := (hxa 1 y2 _ (by rw [hargs]; rfl) rfl).int_inv
            subst ha
            refine pure_ (v := .int k (O.real.imin n m)) ?_ (.int _ _) h
            rw [run_b]
            simp [builtin, Builtin.min_, Builtin.min2, hv1, hv2, O.real]
        · exact h.elim
    case invoke r0 name =>
      split at h
      · rename_i t0 z r
        split at h
        · rename_i d hd
          split at h
          · rename_i f hf
            have hv := hx 0 r0 _ (by simp [Op.operands, Call.operands]) rfl
            obtain ⟨v0, e1, e2⟩ : ∃ v0, a.eval r0 = .iface t0 v0 ∧ VR β F w v0 z := by generalize a.eval r0 = q at hv; cases hv; exact ⟨_, rfl, by assumption⟩
            have hlr : r.length = args.size := by simp [Op.operands, Call.operands] at hlen; omega
            have hm : ∀ (l : List (String × FuncId)), lookM name l = some f → (name, f) ∈ l := by
              intro l
              induction l with
              | nil => intro h; simp [lookM] at h
              | cons p l ih =>
                intro h
                obtain ⟨n, g⟩ := p
                unfold lookM at h
                split at h
                · rename_i hn; injection h with h; subst h; rw [of_decide_eq_true hn]; exact List.mem_cons_self
                · exact List.mem_cons_of_mem _ (ih h)
            have hmeth := htb.2.2.2 t0 d hd _ (hm _ hf) v0 w
            have hg := horc f nx (z :: r) hs β F w (#[v0] ++ args.map a.eval) (fun v w' => K (a.put dst v) w') hC hp (by simp [hlr]; omega) (fun j v z' hv' hz => by
              match j, hv', hz with
              | 0, hv', hz =>
                rw [Array.getElem?_append_left (by simp)] at hv'
                simp at hv' hz; subst hv'; subst hz; exact e2
              | j + 1, hv', hz =>
                simp at hz
                rw [Array.getElem?_append_right (by simp)] at hv'
                simp only [Array.getElem?_map, List.size_toArray, List.length_cons, List.length_nil, Nat.zero_add, Nat.add_sub_cancel] at hv'
                obtain ⟨y, hy, rfl⟩ := Option.map_eq_some_iff.1 hv'
                exact hx (j + 1) y z' (by simp [Op.operands, Call.operands, hy]) (by simpa using hz)) h
            unfold Goes at hg
            unfold Oper.wp
            have hr : (execOp a.eval ⟨dst, .call ⟨.invoke r0 name, args, argTypes⟩, type, pos, after, guard⟩).run P w = (callFunc f (#[v0] ++ args.map a.eval)).run P w := by
              have q1 : (#[Value.iface t0 v0] ++ Array.map a.eval args)[0]? = some (.iface t0 v0) := by
                rw [Array.getElem?_append_left (by simp)]; rfl
              have q2 : (#[Value.iface t0 v0] ++ Array.map a.eval args).extract 1 (#[Value.iface t0 v0] ++ Array.map a.eval args).size = Array.map a.eval args := by
                apply Array.ext
                · simp
                · intro i h1 h2
                  simp [Array.getElem_append_right]
              simp only [execOp, resolve, e1, invoke, Sem.run_bind, Sem.run_pure, Result.andThen_ok, q1, q2, callMethod, hmeth]
              simp [Sem.run_bind, hmeth]
            rw [hr]
            split at hg
            · rename_i g as w' he
              rw [he]
              exact hg.mono fun e w'' ⟨v, hv, hk⟩ => by subst hv; exact hk
            · rename_i v w' he
              rw [he]
              exact hg
            · exact hg.elim
          · exact h.elim
        · exact h.elim
      · exact h.elim
    case value f0 =>
      split at h
      · rename_i f cap r
        have hv := hx 0 f0 _ (by simp [Op.operands, Call.operands]) rfl
        obtain ⟨cs, e1, e2, e3⟩ := hv.fn_inv
        have hlr : r.length = args.size := by simp [Op.operands, Call.operands] at hlen; omega
        have hg := horc f nx (r ++ cap) hs β F w (args.map a.eval ++ cs) (fun v w' => K (a.put dst v) w') hC hp (by simp [hlr, e2]) (fun j v z hv' hz => by
          rcases Nat.lt_or_ge j r.length with hj | hj
          · rw [List.getElem?_append_left hj] at hz
            rw [Array.getElem?_append_left (by simp; omega)] at hv'
            simp only [Array.getElem?_map] at hv'
            obtain ⟨y, hy, rfl⟩ := Option.map_eq_some_iff.1 hv'
            exact hx (j + 1) y z (by simp [Op.operands, Call.operands, hy]) (by simpa using hz)
          · rw [List.getElem?_append_right hj] at hz
            rw [Array.getElem?_append_right (by simp; omega)] at hv'
            simp only [Array.size_map] at hv'
            rw [hlr] at hz
            exact e3 _ v z hv' hz) h
        unfold Goes at hg
        unfold Oper.wp
        have hr : (execOp a.eval ⟨dst, .call ⟨.value f0, args, argTypes⟩, type, pos, after, guard⟩).run P w = (callFunc f (args.map a.eval ++ cs)).run P w := by
          simp [execOp, resolve, Deferred.ofValue, e1, invoke]
        rw [hr]
        split at hg
        · rename_i g as w' he
          rw [he]
          exact hg.mono fun e w'' ⟨v, hv, hk⟩ => by subst hv; exact hk
        · rename_i v w' he
          rw [he]
          exact hg
        · exact hg.elim
      · exact h.elim
end
end Go.Qv
