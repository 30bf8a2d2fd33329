/- Facts of the program's types. Printed by mk_facts.py. -/
import Derived.Test.YtlflfbnnjlkkcaaGreatJAm36
set_option linter.unusedSimpArgs false
set_option linter.unusedVariables false
set_option linter.defProp false
namespace Go.Am
open Go Go.Proofs
theorem ba:CC.size 3=some 1:=by kernel_rfl
theorem Ae:CC.zero 3=some (.int .i64 0):=by kernel_rfl
theorem KG:CC.und 3=some (.int .i64):=by kernel_rfl
theorem bJ (l:List Value) (p:Nat):cO CC 3 l p=l[p]? :=ig (by kernel_rfl) l p
theorem cS (b p:Nat) (sp:Option Nat) (h:Heap):bx CC 3 (.pointer (some ⟨b,p,sp⟩)) h=ae (rowAt h b) fun l=>l[p]? :=bA (by kernel_rfl) b p sp h
theorem fp:CC.size 4=some 1:=by kernel_rfl
theorem D6:CC.zero 4=some (.bool false):=by kernel_rfl
theorem Xu:CC.und 4=some .bool:=by kernel_rfl
theorem A7 (l:List Value) (p:Nat):cO CC 4 l p=l[p]? :=ig (by kernel_rfl) l p
theorem Ju (b p:Nat) (sp:Option Nat) (h:Heap):bx CC 4 (.pointer (some ⟨b,p,sp⟩)) h=ae (rowAt h b) fun l=>l[p]? :=bA (by kernel_rfl) b p sp h
theorem X4:CC.size 9=some 1:=by kernel_rfl
theorem XL:CC.zero 9=some (.string ⟨⟨[]⟩⟩):=by kernel_rfl
theorem und_9:CC.und 9=some .string:=by kernel_rfl
theorem aV:CC.size 22=some 1:=by kernel_rfl
theorem bh:CC.zero 22=some (.slice none 0 0):=by kernel_rfl
theorem bm:CC.und 22=some (.slice 3):=by kernel_rfl
theorem kN (l:List Value) (p:Nat):cO CC 22 l p=l[p]? :=ig (by kernel_rfl) l p
theorem cM (b p:Nat) (sp:Option Nat) (h:Heap):bx CC 22 (.pointer (some ⟨b,p,sp⟩)) h=ae (rowAt h b) fun l=>l[p]? :=bA (by kernel_rfl) b p sp h
theorem cA (p:Option Addr) (n m:Nat) (h:Heap):mg CC 22 (.slice p n m) h=some (.int .i64 n):=cj CC 22 h p n m _ bm
theorem u9:CC.size 23=some 1:=by kernel_rfl
theorem uO:CC.zero 23=some (.slice none 0 0):=by kernel_rfl
theorem oN:CC.und 23=some (.slice 200):=by kernel_rfl
theorem Le (b p:Nat) (sp:Option Nat) (h:Heap):bx CC 23 (.pointer (some ⟨b,p,sp⟩)) h=ae (rowAt h b) fun l=>l[p]? :=bA (by kernel_rfl) b p sp h
theorem Jr (p:Option Addr) (n m:Nat) (h:Heap):mg CC 23 (.slice p n m) h=some (.int .i64 n):=cj CC 23 h p n m _ oN
theorem eU:CC.size 25=some 2:=by kernel_rfl
theorem oJ:CC.zero 25=some (.agg ⟨[.int .i64 0, .int .i64 0]⟩):=by kernel_rfl
theorem o8 (l:List Value) (p:Nat):cO CC 25 l p=ae (aA l p 2) fun l=>some (br l):=dp (by kernel_rfl) eU l p
theorem tK (b p:Nat) (sp:Option Nat) (h:Heap):bx CC 25 (.pointer (some ⟨b,p,sp⟩)) h=ae (rowAt h b) fun l=>ae (aA l p 2) fun l=>some (br l):=bK (by kernel_rfl) eU b p sp h
theorem B2:CC.fieldAt 25 0=some (0,3,1):=by kernel_rfl
theorem iR (b p:Nat) (sp:Option Nat):ai CC 25 (.pointer (some ⟨b,p,sp⟩)) 0=some (.val (.pointer (some ⟨b,p+0,none⟩))):=ah B2 rfl b p sp
theorem B0:CC.fieldAt 25 1=some (1,3,1):=by kernel_rfl
theorem iQ (b p:Nat) (sp:Option Nat):ai CC 25 (.pointer (some ⟨b,p,sp⟩)) 1=some (.val (.pointer (some ⟨b,p+1,none⟩))):=ah B0 rfl b p sp
theorem jR:CC.size 26=some 1:=by kernel_rfl
theorem jN:CC.zero 26=some (.slice none 0 0):=by kernel_rfl
theorem ji:CC.und 26=some (.slice 94):=by kernel_rfl
theorem Bx (b p:Nat) (sp:Option Nat) (h:Heap):bx CC 26 (.pointer (some ⟨b,p,sp⟩)) h=ae (rowAt h b) fun l=>l[p]? :=bA (by kernel_rfl) b p sp h
theorem Bu (p:Option Addr) (n m:Nat) (h:Heap):mg CC 26 (.slice p n m) h=some (.int .i64 n):=cj CC 26 h p n m _ ji
theorem Vs:CC.size 28=some 10:=by kernel_rfl
theorem mw (b p:Nat) (sp:Option Nat) (h:Heap):bx CC 28 (.pointer (some ⟨b,p,sp⟩)) h=ae (rowAt h b) fun l=>ae (aA l p 10) fun l=>some (br l):=bK (by kernel_rfl) Vs b p sp h
theorem Tb:CC.fieldAt 28 0=some (0,22,1):=by kernel_rfl
theorem sW (b p:Nat) (sp:Option Nat):ai CC 28 (.pointer (some ⟨b,p,sp⟩)) 0=some (.val (.pointer (some ⟨b,p+0,none⟩))):=ah Tb rfl b p sp
theorem Ta:CC.fieldAt 28 1=some (1,23,1):=by kernel_rfl
theorem zJ (b p:Nat) (sp:Option Nat):ai CC 28 (.pointer (some ⟨b,p,sp⟩)) 1=some (.val (.pointer (some ⟨b,p+1,none⟩))):=ah Ta rfl b p sp
theorem S9:CC.fieldAt 28 2=some (2,25,2):=by kernel_rfl
theorem EK (b p:Nat) (sp:Option Nat):ai CC 28 (.pointer (some ⟨b,p,sp⟩)) 2=some (.val (.pointer (some ⟨b,p+2,none⟩))):=ah S9 rfl b p sp
theorem S8:CC.fieldAt 28 3=some (4,25,2):=by kernel_rfl
theorem Lu (b p:Nat) (sp:Option Nat):ai CC 28 (.pointer (some ⟨b,p,sp⟩)) 3=some (.val (.pointer (some ⟨b,p+4,none⟩))):=ah S8 rfl b p sp
theorem S7:CC.fieldAt 28 4=some (6,3,1):=by kernel_rfl
theorem Lt (b p:Nat) (sp:Option Nat):ai CC 28 (.pointer (some ⟨b,p,sp⟩)) 4=some (.val (.pointer (some ⟨b,p+6,none⟩))):=ah S7 rfl b p sp
theorem S5:CC.fieldAt 28 5=some (7,26,1):=by kernel_rfl
theorem pI (b p:Nat) (sp:Option Nat):ai CC 28 (.pointer (some ⟨b,p,sp⟩)) 5=some (.val (.pointer (some ⟨b,p+7,none⟩))):=ah S5 rfl b p sp
theorem S3:CC.fieldAt 28 6=some (8,3,1):=by kernel_rfl
theorem Ls (b p:Nat) (sp:Option Nat):ai CC 28 (.pointer (some ⟨b,p,sp⟩)) 6=some (.val (.pointer (some ⟨b,p+8,none⟩))):=ah S3 rfl b p sp
theorem SZ:CC.fieldAt 28 7=some (9,3,1):=by kernel_rfl
theorem EJ (b p:Nat) (sp:Option Nat):ai CC 28 (.pointer (some ⟨b,p,sp⟩)) 7=some (.val (.pointer (some ⟨b,p+9,none⟩))):=ah SZ rfl b p sp
theorem u7:CC.size 29=some 1:=by kernel_rfl
theorem uN:CC.zero 29=some (.slice none 0 0):=by kernel_rfl
theorem oM:CC.und 29=some (.slice 25):=by kernel_rfl
theorem Bw (b p:Nat) (sp:Option Nat) (h:Heap):bx CC 29 (.pointer (some ⟨b,p,sp⟩)) h=ae (rowAt h b) fun l=>l[p]? :=bA (by kernel_rfl) b p sp h
theorem uj (p:Option Addr) (n m:Nat) (h:Heap):mg CC 29 (.slice p n m) h=some (.int .i64 n):=cj CC 29 h p n m _ oM
theorem u6:CC.size 30=some 1:=by kernel_rfl
theorem uM:CC.zero 30=some (.slice none 0 0):=by kernel_rfl
theorem oK:CC.und 30=some (.slice 206):=by kernel_rfl
theorem Dx (b p:Nat) (sp:Option Nat) (h:Heap):bx CC 30 (.pointer (some ⟨b,p,sp⟩)) h=ae (rowAt h b) fun l=>l[p]? :=bA (by kernel_rfl) b p sp h
theorem Bt (p:Option Addr) (n m:Nat) (h:Heap):mg CC 30 (.slice p n m) h=some (.int .i64 n):=cj CC 30 h p n m _ oK
theorem Vr:CC.size 32=some 3:=by kernel_rfl
theorem lO (b p:Nat) (sp:Option Nat) (h:Heap):bx CC 32 (.pointer (some ⟨b,p,sp⟩)) h=ae (rowAt h b) fun l=>ae (aA l p 3) fun l=>some (br l):=bK (by kernel_rfl) Vr b p sp h
theorem SY:CC.fieldAt 32 0=some (0,29,1):=by kernel_rfl
theorem pH (b p:Nat) (sp:Option Nat):ai CC 32 (.pointer (some ⟨b,p,sp⟩)) 0=some (.val (.pointer (some ⟨b,p+0,none⟩))):=ah SY rfl b p sp
theorem SW:CC.fieldAt 32 1=some (1,22,1):=by kernel_rfl
theorem vM (b p:Nat) (sp:Option Nat):ai CC 32 (.pointer (some ⟨b,p,sp⟩)) 1=some (.val (.pointer (some ⟨b,p+1,none⟩))):=ah SW rfl b p sp
theorem SV:CC.fieldAt 32 2=some (2,30,1):=by kernel_rfl
theorem sV (b p:Nat) (sp:Option Nat):ai CC 32 (.pointer (some ⟨b,p,sp⟩)) 2=some (.val (.pointer (some ⟨b,p+2,none⟩))):=ah SV rfl b p sp
theorem kJ:CC.size 33=some 1:=by kernel_rfl
theorem kD:CC.zero 33=some (.slice none 0 0):=by kernel_rfl
theorem jh:CC.und 33=some (.slice 22):=by kernel_rfl
theorem Hl (b p:Nat) (sp:Option Nat) (h:Heap):bx CC 33 (.pointer (some ⟨b,p,sp⟩)) h=ae (rowAt h b) fun l=>l[p]? :=bA (by kernel_rfl) b p sp h
theorem ko (p:Option Addr) (n m:Nat) (h:Heap):mg CC 33 (.slice p n m) h=some (.int .i64 n):=cj CC 33 h p n m _ jh
theorem Vq:CC.size 35=some 2:=by kernel_rfl
theorem kv (b p:Nat) (sp:Option Nat) (h:Heap):bx CC 35 (.pointer (some ⟨b,p,sp⟩)) h=ae (rowAt h b) fun l=>ae (aA l p 2) fun l=>some (br l):=bK (by kernel_rfl) Vq b p sp h
theorem SU:CC.fieldAt 35 0=some (0,3,1):=by kernel_rfl
theorem vL (b p:Nat) (sp:Option Nat):ai CC 35 (.pointer (some ⟨b,p,sp⟩)) 0=some (.val (.pointer (some ⟨b,p+0,none⟩))):=ah SU rfl b p sp
theorem ST:CC.fieldAt 35 1=some (1,33,1):=by kernel_rfl
theorem zI (b p:Nat) (sp:Option Nat):ai CC 35 (.pointer (some ⟨b,p,sp⟩)) 1=some (.val (.pointer (some ⟨b,p+1,none⟩))):=ah ST rfl b p sp
theorem kI:CC.size 36=some 1:=by kernel_rfl
theorem ky:CC.zero 36=some (.slice none 0 0):=by kernel_rfl
theorem jC:CC.und 36=some (.slice 96):=by kernel_rfl
theorem vA (b p:Nat) (sp:Option Nat) (h:Heap):bx CC 36 (.pointer (some ⟨b,p,sp⟩)) h=ae (rowAt h b) fun l=>l[p]? :=bA (by kernel_rfl) b p sp h
theorem xj (p:Option Addr) (n m:Nat) (h:Heap):mg CC 36 (.slice p n m) h=some (.int .i64 n):=cj CC 36 h p n m _ jC
theorem Vp:CC.size 38=some 3:=by kernel_rfl
theorem qZ (b p:Nat) (sp:Option Nat) (h:Heap):bx CC 38 (.pointer (some ⟨b,p,sp⟩)) h=ae (rowAt h b) fun l=>ae (aA l p 3) fun l=>some (br l):=bK (by kernel_rfl) Vp b p sp h
theorem SS:CC.fieldAt 38 0=some (0,3,1):=by kernel_rfl
theorem Lr (b p:Nat) (sp:Option Nat):ai CC 38 (.pointer (some ⟨b,p,sp⟩)) 0=some (.val (.pointer (some ⟨b,p+0,none⟩))):=ah SS rfl b p sp
theorem SQ:CC.fieldAt 38 1=some (1,22,1):=by kernel_rfl
theorem pG (b p:Nat) (sp:Option Nat):ai CC 38 (.pointer (some ⟨b,p,sp⟩)) 1=some (.val (.pointer (some ⟨b,p+1,none⟩))):=ah SQ rfl b p sp
theorem SP:CC.fieldAt 38 2=some (2,36,1):=by kernel_rfl
theorem kR (b p:Nat) (sp:Option Nat):ai CC 38 (.pointer (some ⟨b,p,sp⟩)) 2=some (.val (.pointer (some ⟨b,p+2,none⟩))):=ah SP rfl b p sp
theorem Vo:CC.size 39=some 3:=by kernel_rfl
theorem Uz:CC.zero 39=some (.agg ⟨[.int .i64 0, .int .i64 0, .int .i64 0]⟩):=by kernel_rfl
theorem tX:CC.und 39=some (.array 3 3):=by kernel_rfl
theorem KX:CC.size 40=some 6:=by kernel_rfl
theorem KD:CC.zero 40=some (.agg ⟨[.int .i64 0, .int .i64 0, .int .i64 0, .int .i64 0, .int .i64 0, .int .i64 0]⟩):=by kernel_rfl
theorem Au:CC.und 40=some (.array 3 25):=by kernel_rfl
theorem zx:CC.size 41=some 1:=by kernel_rfl
theorem zm:CC.zero 41=some (.slice none 0 0):=by kernel_rfl
theorem qJ:CC.und 41=some (.slice 143):=by kernel_rfl
theorem Hj (b p:Nat) (sp:Option Nat) (h:Heap):bx CC 41 (.pointer (some ⟨b,p,sp⟩)) h=ae (rowAt h b) fun l=>l[p]? :=bA (by kernel_rfl) b p sp h
theorem Bs (p:Option Addr) (n m:Nat) (h:Heap):mg CC 41 (.slice p n m) h=some (.int .i64 n):=cj CC 41 h p n m _ qJ
theorem Vn:CC.size 43=some 13:=by kernel_rfl
theorem Hi (b p:Nat) (sp:Option Nat) (h:Heap):bx CC 43 (.pointer (some ⟨b,p,sp⟩)) h=ae (rowAt h b) fun l=>ae (aA l p 13) fun l=>some (br l):=bK (by kernel_rfl) Vn b p sp h
theorem SO:CC.fieldAt 43 0=some (0,39,3):=by kernel_rfl
theorem Wh (b p:Nat) (sp:Option Nat):ai CC 43 (.pointer (some ⟨b,p,sp⟩)) 0=some (.val (.pointer (some ⟨b,p+0,none⟩))):=ah SO rfl b p sp
theorem SN:CC.fieldAt 43 1=some (3,40,6):=by kernel_rfl
theorem Wg (b p:Nat) (sp:Option Nat):ai CC 43 (.pointer (some ⟨b,p,sp⟩)) 1=some (.val (.pointer (some ⟨b,p+3,none⟩))):=ah SN rfl b p sp
theorem SM:CC.fieldAt 43 2=some (9,25,2):=by kernel_rfl
theorem Wf (b p:Nat) (sp:Option Nat):ai CC 43 (.pointer (some ⟨b,p,sp⟩)) 2=some (.val (.pointer (some ⟨b,p+9,none⟩))):=ah SM rfl b p sp
theorem SK:CC.fieldAt 43 3=some (11,3,1):=by kernel_rfl
theorem We (b p:Nat) (sp:Option Nat):ai CC 43 (.pointer (some ⟨b,p,sp⟩)) 3=some (.val (.pointer (some ⟨b,p+11,none⟩))):=ah SK rfl b p sp
theorem SJ:CC.fieldAt 43 4=some (12,41,1):=by kernel_rfl
theorem vK (b p:Nat) (sp:Option Nat):ai CC 43 (.pointer (some ⟨b,p,sp⟩)) 4=some (.val (.pointer (some ⟨b,p+12,none⟩))):=ah SJ rfl b p sp
theorem zw:CC.size 44=some 1:=by kernel_rfl
theorem zl:CC.zero 44=some (.slice none 0 0):=by kernel_rfl
theorem qI:CC.und 44=some (.slice 89):=by kernel_rfl
theorem Hh (b p:Nat) (sp:Option Nat) (h:Heap):bx CC 44 (.pointer (some ⟨b,p,sp⟩)) h=ae (rowAt h b) fun l=>l[p]? :=bA (by kernel_rfl) b p sp h
theorem Br (p:Option Addr) (n m:Nat) (h:Heap):mg CC 44 (.slice p n m) h=some (.int .i64 n):=cj CC 44 h p n m _ qI
theorem zu:CC.size 45=some 1:=by kernel_rfl
theorem zj:CC.zero 45=some (.slice none 0 0):=by kernel_rfl
theorem qH:CC.und 45=some (.slice 166):=by kernel_rfl
theorem Q0 (b p:Nat) (sp:Option Nat) (h:Heap):bx CC 45 (.pointer (some ⟨b,p,sp⟩)) h=ae (rowAt h b) fun l=>l[p]? :=bA (by kernel_rfl) b p sp h
theorem Jq (p:Option Addr) (n m:Nat) (h:Heap):mg CC 45 (.slice p n m) h=some (.int .i64 n):=cj CC 45 h p n m _ qH
theorem Vm:CC.size 47=some 3:=by kernel_rfl
theorem Dw (b p:Nat) (sp:Option Nat) (h:Heap):bx CC 47 (.pointer (some ⟨b,p,sp⟩)) h=ae (rowAt h b) fun l=>ae (aA l p 3) fun l=>some (br l):=bK (by kernel_rfl) Vm b p sp h
theorem SI:CC.fieldAt 47 0=some (0,22,1):=by kernel_rfl
theorem vJ (b p:Nat) (sp:Option Nat):ai CC 47 (.pointer (some ⟨b,p,sp⟩)) 0=some (.val (.pointer (some ⟨b,p+0,none⟩))):=ah SI rfl b p sp
theorem SH:CC.fieldAt 47 1=some (1,44,1):=by kernel_rfl
theorem vI (b p:Nat) (sp:Option Nat):ai CC 47 (.pointer (some ⟨b,p,sp⟩)) 1=some (.val (.pointer (some ⟨b,p+1,none⟩))):=ah SH rfl b p sp
theorem SG:CC.fieldAt 47 2=some (2,45,1):=by kernel_rfl
theorem EI (b p:Nat) (sp:Option Nat):ai CC 47 (.pointer (some ⟨b,p,sp⟩)) 2=some (.val (.pointer (some ⟨b,p+2,none⟩))):=ah SG rfl b p sp
theorem KW:CC.size 49=some 35:=by kernel_rfl
theorem Ld (b p:Nat) (sp:Option Nat) (h:Heap):bx CC 49 (.pointer (some ⟨b,p,sp⟩)) h=ae (rowAt h b) fun l=>ae (aA l p 35) fun l=>some (br l):=bK (by kernel_rfl) KW b p sp h
theorem SF:CC.fieldAt 49 0=some (0,28,10):=by kernel_rfl
theorem sU (b p:Nat) (sp:Option Nat):ai CC 49 (.pointer (some ⟨b,p,sp⟩)) 0=some (.val (.pointer (some ⟨b,p+0,none⟩))):=ah SF rfl b p sp
theorem SE:CC.fieldAt 49 1=some (10,32,3):=by kernel_rfl
theorem vH (b p:Nat) (sp:Option Nat):ai CC 49 (.pointer (some ⟨b,p,sp⟩)) 1=some (.val (.pointer (some ⟨b,p+10,none⟩))):=ah SE rfl b p sp
theorem SD:CC.fieldAt 49 2=some (13,35,2):=by kernel_rfl
theorem sT (b p:Nat) (sp:Option Nat):ai CC 49 (.pointer (some ⟨b,p,sp⟩)) 2=some (.val (.pointer (some ⟨b,p+13,none⟩))):=ah SD rfl b p sp
theorem SB:CC.fieldAt 49 3=some (15,38,3):=by kernel_rfl
theorem pD (b p:Nat) (sp:Option Nat):ai CC 49 (.pointer (some ⟨b,p,sp⟩)) 3=some (.val (.pointer (some ⟨b,p+15,none⟩))):=ah SB rfl b p sp
theorem SA:CC.fieldAt 49 4=some (18,43,13):=by kernel_rfl
theorem zH (b p:Nat) (sp:Option Nat):ai CC 49 (.pointer (some ⟨b,p,sp⟩)) 4=some (.val (.pointer (some ⟨b,p+18,none⟩))):=ah SA rfl b p sp
theorem Sz:CC.fieldAt 49 5=some (31,22,1):=by kernel_rfl
theorem zG (b p:Nat) (sp:Option Nat):ai CC 49 (.pointer (some ⟨b,p,sp⟩)) 5=some (.val (.pointer (some ⟨b,p+31,none⟩))):=ah Sz rfl b p sp
theorem Sy:CC.fieldAt 49 6=some (32,47,3):=by kernel_rfl
theorem vG (b p:Nat) (sp:Option Nat):ai CC 49 (.pointer (some ⟨b,p,sp⟩)) 6=some (.val (.pointer (some ⟨b,p+32,none⟩))):=ah Sy rfl b p sp
theorem KV:CC.size 51=some 1:=by kernel_rfl
theorem KC:CC.zero 51=some (.nilFunc):=by kernel_rfl
theorem QZ (b p:Nat) (sp:Option Nat) (h:Heap):bx CC 51 (.pointer (some ⟨b,p,sp⟩)) h=ae (rowAt h b) fun l=>l[p]? :=bA (by kernel_rfl) b p sp h
theorem ld_52 (b p:Nat) (sp:Option Nat) (h:Heap):bx CC 52 (.pointer (some ⟨b,p,sp⟩)) h=ae (rowAt h b) fun l=>l[p]? :=bA (by kernel_rfl) b p sp h
theorem sJ:CC.size 53=some 1:=by kernel_rfl
theorem sr:CC.zero 53=some (.int .i64 0):=by kernel_rfl
theorem wO:CC.und 53=some (.int .i64):=by kernel_rfl
theorem QY (b p:Nat) (sp:Option Nat) (h:Heap):bx CC 53 (.pointer (some ⟨b,p,sp⟩)) h=ae (rowAt h b) fun l=>l[p]? :=bA (by kernel_rfl) b p sp h
theorem sI:CC.size 56=some 1:=by kernel_rfl
theorem sq:CC.zero 56=some (.slice none 0 0):=by kernel_rfl
theorem lv:CC.und 56=some (.slice 314):=by kernel_rfl
theorem vz (b p:Nat) (sp:Option Nat) (h:Heap):bx CC 56 (.pointer (some ⟨b,p,sp⟩)) h=ae (rowAt h b) fun l=>l[p]? :=bA (by kernel_rfl) b p sp h
theorem pk (p:Option Addr) (n m:Nat) (h:Heap):mg CC 56 (.slice p n m) h=some (.int .i64 n):=cj CC 56 h p n m _ lv
theorem ia:CC.size 58=some 2:=by kernel_rfl
theorem jM:CC.zero 58=some (.agg ⟨[.slice none 0 0, .slice none 0 0]⟩):=by kernel_rfl
theorem K0 (l:List Value) (p:Nat):cO CC 58 l p=ae (aA l p 2) fun l=>some (br l):=dp (by kernel_rfl) ia l p
theorem tJ (b p:Nat) (sp:Option Nat) (h:Heap):bx CC 58 (.pointer (some ⟨b,p,sp⟩)) h=ae (rowAt h b) fun l=>ae (aA l p 2) fun l=>some (br l):=bK (by kernel_rfl) ia b p sp h
theorem vO:CC.fieldAt 58 0=some (0,22,1):=by kernel_rfl
theorem Wd (b p:Nat) (sp:Option Nat):ai CC 58 (.pointer (some ⟨b,p,sp⟩)) 0=some (.val (.pointer (some ⟨b,p+0,none⟩))):=ah vO rfl b p sp
theorem vN:CC.fieldAt 58 1=some (1,56,1):=by kernel_rfl
theorem mC (b p:Nat) (sp:Option Nat):ai CC 58 (.pointer (some ⟨b,p,sp⟩)) 1=some (.val (.pointer (some ⟨b,p+1,none⟩))):=ah vN rfl b p sp
theorem XI (b p:Nat) (sp:Option Nat) (h:Heap):bx CC 69 (.pointer (some ⟨b,p,sp⟩)) h=ae (rowAt h b) fun l=>l[p]? :=bA (by kernel_rfl) b p sp h
theorem ld_77 (b p:Nat) (sp:Option Nat) (h:Heap):bx CC 77 (.pointer (some ⟨b,p,sp⟩)) h=ae (rowAt h b) fun l=>l[p]? :=bA (by kernel_rfl) b p sp h
theorem u5:CC.size 80=some 2:=by kernel_rfl
theorem KB:CC.zero 80=some (.agg ⟨[.int .i64 0, .slice none 0 0]⟩):=by kernel_rfl
theorem Vz (l:List Value) (p:Nat):cO CC 80 l p=ae (aA l p 2) fun l=>some (br l):=dp (by kernel_rfl) u5 l p
theorem XG (b p:Nat) (sp:Option Nat) (h:Heap):bx CC 80 (.pointer (some ⟨b,p,sp⟩)) h=ae (rowAt h b) fun l=>ae (aA l p 2) fun l=>some (br l):=bK (by kernel_rfl) u5 b p sp h
theorem Sw:CC.fieldAt 80 0=some (0,77,1):=by kernel_rfl
theorem Wc (b p:Nat) (sp:Option Nat):ai CC 80 (.pointer (some ⟨b,p,sp⟩)) 0=some (.val (.pointer (some ⟨b,p+0,none⟩))):=ah Sw rfl b p sp
theorem oU:CC.size 89=some 5:=by kernel_rfl
theorem zy (l:List Value) (p:Nat):cO CC 89 l p=ae (aA l p 5) fun l=>some (br l):=dp (by kernel_rfl) oU l p
theorem XF (b p:Nat) (sp:Option Nat) (h:Heap):bx CC 89 (.pointer (some ⟨b,p,sp⟩)) h=ae (rowAt h b) fun l=>ae (aA l p 5) fun l=>some (br l):=bK (by kernel_rfl) oU b p sp h
theorem Sv:CC.fieldAt 89 0=some (0,3,1):=by kernel_rfl
theorem Wb (b p:Nat) (sp:Option Nat):ai CC 89 (.pointer (some ⟨b,p,sp⟩)) 0=some (.val (.pointer (some ⟨b,p+0,none⟩))):=ah Sv rfl b p sp
theorem Su:CC.fieldAt 89 1=some (1,3,1):=by kernel_rfl
theorem Wa (b p:Nat) (sp:Option Nat):ai CC 89 (.pointer (some ⟨b,p,sp⟩)) 1=some (.val (.pointer (some ⟨b,p+1,none⟩))):=ah Su rfl b p sp
theorem Ss:CC.fieldAt 89 2=some (2,25,2):=by kernel_rfl
theorem V9 (b p:Nat) (sp:Option Nat):ai CC 89 (.pointer (some ⟨b,p,sp⟩)) 2=some (.val (.pointer (some ⟨b,p+2,none⟩))):=ah Ss rfl b p sp
theorem Sr:CC.fieldAt 89 3=some (4,3,1):=by kernel_rfl
theorem V8 (b p:Nat) (sp:Option Nat):ai CC 89 (.pointer (some ⟨b,p,sp⟩)) 3=some (.val (.pointer (some ⟨b,p+4,none⟩))):=ah Sr rfl b p sp
theorem KU:CC.size 92=some 2:=by kernel_rfl
theorem KA:CC.zero 92=some (.agg ⟨[.int .i64 0, .slice none 0 0]⟩):=by kernel_rfl
theorem ld_92 (b p:Nat) (sp:Option Nat) (h:Heap):bx CC 92 (.pointer (some ⟨b,p,sp⟩)) h=ae (rowAt h b) fun l=>ae (aA l p 2) fun l=>some (br l):=bK (by kernel_rfl) KU b p sp h
theorem BZ:CC.fieldAt 92 0=some (0,69,1):=by kernel_rfl
theorem Lq (b p:Nat) (sp:Option Nat):ai CC 92 (.pointer (some ⟨b,p,sp⟩)) 0=some (.val (.pointer (some ⟨b,p+0,none⟩))):=ah BZ rfl b p sp
theorem BY:CC.fieldAt 92 1=some (1,22,1):=by kernel_rfl
theorem Lp (b p:Nat) (sp:Option Nat):ai CC 92 (.pointer (some ⟨b,p,sp⟩)) 1=some (.val (.pointer (some ⟨b,p+1,none⟩))):=ah BY rfl b p sp
theorem gv:CC.size 94=some 3:=by kernel_rfl
theorem zi:CC.zero 94=some (.agg ⟨[.slice none 0 0, .slice none 0 0, .bool false]⟩):=by kernel_rfl
theorem jS (l:List Value) (p:Nat):cO CC 94 l p=ae (aA l p 3) fun l=>some (br l):=dp (by kernel_rfl) gv l p
theorem Hg (b p:Nat) (sp:Option Nat) (h:Heap):bx CC 94 (.pointer (some ⟨b,p,sp⟩)) h=ae (rowAt h b) fun l=>ae (aA l p 3) fun l=>some (br l):=bK (by kernel_rfl) gv b p sp h
theorem BW:CC.fieldAt 94 0=some (0,22,1):=by kernel_rfl
theorem pC (b p:Nat) (sp:Option Nat):ai CC 94 (.pointer (some ⟨b,p,sp⟩)) 0=some (.val (.pointer (some ⟨b,p+0,none⟩))):=ah BW rfl b p sp
theorem BV:CC.fieldAt 94 1=some (1,22,1):=by kernel_rfl
theorem zF (b p:Nat) (sp:Option Nat):ai CC 94 (.pointer (some ⟨b,p,sp⟩)) 1=some (.val (.pointer (some ⟨b,p+1,none⟩))):=ah BV rfl b p sp
theorem BU:CC.fieldAt 94 2=some (2,4,1):=by kernel_rfl
theorem V7 (b p:Nat) (sp:Option Nat):ai CC 94 (.pointer (some ⟨b,p,sp⟩)) 2=some (.val (.pointer (some ⟨b,p+2,none⟩))):=ah BU rfl b p sp
theorem gq:CC.size 96=some 5:=by kernel_rfl
theorem uK:CC.zero 96=some (.agg ⟨[.int .i64 0, .bool false, .int .i64 0, .int .i64 0, .slice none 0 0]⟩):=by kernel_rfl
theorem kM (l:List Value) (p:Nat):cO CC 96 l p=ae (aA l p 5) fun l=>some (br l):=dp (by kernel_rfl) gq l p
theorem Hf (b p:Nat) (sp:Option Nat) (h:Heap):bx CC 96 (.pointer (some ⟨b,p,sp⟩)) h=ae (rowAt h b) fun l=>ae (aA l p 5) fun l=>some (br l):=bK (by kernel_rfl) gq b p sp h
theorem Sq:CC.fieldAt 96 0=some (0,3,1):=by kernel_rfl
theorem V6 (b p:Nat) (sp:Option Nat):ai CC 96 (.pointer (some ⟨b,p,sp⟩)) 0=some (.val (.pointer (some ⟨b,p+0,none⟩))):=ah Sq rfl b p sp
theorem So:CC.fieldAt 96 1=some (1,4,1):=by kernel_rfl
theorem V5 (b p:Nat) (sp:Option Nat):ai CC 96 (.pointer (some ⟨b,p,sp⟩)) 1=some (.val (.pointer (some ⟨b,p+1,none⟩))):=ah So rfl b p sp
theorem Sn:CC.fieldAt 96 2=some (2,25,2):=by kernel_rfl
theorem EH (b p:Nat) (sp:Option Nat):ai CC 96 (.pointer (some ⟨b,p,sp⟩)) 2=some (.val (.pointer (some ⟨b,p+2,none⟩))):=ah Sn rfl b p sp
theorem Sm:CC.fieldAt 96 3=some (4,22,1):=by kernel_rfl
theorem vE (b p:Nat) (sp:Option Nat):ai CC 96 (.pointer (some ⟨b,p,sp⟩)) 3=some (.val (.pointer (some ⟨b,p+4,none⟩))):=ah Sm rfl b p sp
theorem PU:CC.size 108=some 1:=by kernel_rfl
theorem Ob:CC.zero 108=some (.slice none 0 0):=by kernel_rfl
theorem Ea:CC.und 108=some (.slice 80):=by kernel_rfl
theorem YP (b p:Nat) (sp:Option Nat) (h:Heap):bx CC 108 (.pointer (some ⟨b,p,sp⟩)) h=ae (rowAt h b) fun l=>l[p]? :=bA (by kernel_rfl) b p sp h
theorem VR (p:Option Addr) (n m:Nat) (h:Heap):mg CC 108 (.slice p n m) h=some (.int .i64 n):=cj CC 108 h p n m _ Ea
theorem PT:CC.size 110=some 37:=by kernel_rfl
theorem yc:CC.fieldAt 110 0=some (0,4,1):=by kernel_rfl
theorem Sk (b p:Nat) (sp:Option Nat):ai CC 110 (.pointer (some ⟨b,p,sp⟩)) 0=some (.val (.pointer (some ⟨b,p+0,none⟩))):=ah yc rfl b p sp
theorem yb:CC.fieldAt 110 1=some (1,49,35):=by kernel_rfl
theorem Sj (b p:Nat) (sp:Option Nat):ai CC 110 (.pointer (some ⟨b,p,sp⟩)) 1=some (.val (.pointer (some ⟨b,p+1,none⟩))):=ah yb rfl b p sp
theorem ya:CC.fieldAt 110 2=some (36,108,1):=by kernel_rfl
theorem Si (b p:Nat) (sp:Option Nat):ai CC 110 (.pointer (some ⟨b,p,sp⟩)) 2=some (.val (.pointer (some ⟨b,p+36,none⟩))):=ah ya rfl b p sp
theorem GD:CC.size 112=some 1:=by kernel_rfl
theorem FU:CC.zero 112=some (.map none):=by kernel_rfl
theorem uW:CC.und 112=some (.map 221 25):=by kernel_rfl
theorem Rf (b p:Nat) (sp:Option Nat) (h:Heap):bx CC 112 (.pointer (some ⟨b,p,sp⟩)) h=ae (rowAt h b) fun l=>l[p]? :=bA (by kernel_rfl) b p sp h
theorem AN:CC.size 114=some 11:=by kernel_rfl
theorem Al:CC.zero 114=some (.agg ⟨[.slice none 0 0, .slice none 0 0, .int .i64 0, .int .i64 0, .int .i64 0, .int .i64 0, .int .i64 0, .slice none 0 0, .int .i64 0, .int .i64 0, .map none]⟩):=by kernel_rfl
theorem jq (b p:Nat) (sp:Option Nat) (h:Heap):bx CC 114 (.pointer (some ⟨b,p,sp⟩)) h=ae (rowAt h b) fun l=>ae (aA l p 11) fun l=>some (br l):=bK (by kernel_rfl) AN b p sp h
theorem xZ:CC.fieldAt 114 0=some (0,28,10):=by kernel_rfl
theorem iH (b p:Nat) (sp:Option Nat):ai CC 114 (.pointer (some ⟨b,p,sp⟩)) 0=some (.val (.pointer (some ⟨b,p+0,none⟩))):=ah xZ rfl b p sp
theorem xY:CC.fieldAt 114 1=some (10,112,1):=by kernel_rfl
theorem HR (b p:Nat) (sp:Option Nat):ai CC 114 (.pointer (some ⟨b,p,sp⟩)) 1=some (.val (.pointer (some ⟨b,p+10,none⟩))):=ah xY rfl b p sp
theorem GC:CC.size 116=some 1:=by kernel_rfl
theorem FS:CC.zero 116=some (.slice none 0 0):=by kernel_rfl
theorem uV:CC.und 116=some (.slice 58):=by kernel_rfl
theorem YO (b p:Nat) (sp:Option Nat) (h:Heap):bx CC 116 (.pointer (some ⟨b,p,sp⟩)) h=ae (rowAt h b) fun l=>l[p]? :=bA (by kernel_rfl) b p sp h
theorem Lb (p:Option Addr) (n m:Nat) (h:Heap):mg CC 116 (.slice p n m) h=some (.int .i64 n):=cj CC 116 h p n m _ uV
theorem jY:CC.size 128=some 6:=by kernel_rfl
theorem mR:CC.zero 128=some (.agg ⟨[.bool false, .bool false, .bool false, .bool false, .bool false, .bool false]⟩):=by kernel_rfl
theorem dQ:CC.und 128=some (.array 6 4):=by kernel_rfl
theorem G4 (l:List Value) (p:Nat):cO CC 128 l p=ae (aA l p 6) fun l=>some (br l):=dp (by kernel_rfl) jY l p
theorem YN (b p:Nat) (sp:Option Nat) (h:Heap):bx CC 128 (.pointer (some ⟨b,p,sp⟩)) h=ae (rowAt h b) fun l=>ae (aA l p 6) fun l=>some (br l):=bK (by kernel_rfl) jY b p sp h
theorem GB:CC.size 129=some 36:=by kernel_rfl
theorem D9:CC.und 129=some (.array 6 128):=by kernel_rfl
theorem GA:CC.size 131=some 38:=by kernel_rfl
theorem Re (b p:Nat) (sp:Option Nat) (h:Heap):bx CC 131 (.pointer (some ⟨b,p,sp⟩)) h=ae (rowAt h b) fun l=>ae (aA l p 38) fun l=>some (br l):=bK (by kernel_rfl) GA b p sp h
theorem xX:CC.fieldAt 131 0=some (0,35,2):=by kernel_rfl
theorem HQ (b p:Nat) (sp:Option Nat):ai CC 131 (.pointer (some ⟨b,p,sp⟩)) 0=some (.val (.pointer (some ⟨b,p+0,none⟩))):=ah xX rfl b p sp
theorem xW:CC.fieldAt 131 1=some (2,129,36):=by kernel_rfl
theorem HP (b p:Nat) (sp:Option Nat):ai CC 131 (.pointer (some ⟨b,p,sp⟩)) 1=some (.val (.pointer (some ⟨b,p+2,none⟩))):=ah xW rfl b p sp
theorem AM:CC.size 135=some 1:=by kernel_rfl
theorem Ak:CC.zero 135=some (.slice none 0 0):=by kernel_rfl
theorem uU:CC.und 135=some (.slice 138):=by kernel_rfl
theorem YM (b p:Nat) (sp:Option Nat) (h:Heap):bx CC 135 (.pointer (some ⟨b,p,sp⟩)) h=ae (rowAt h b) fun l=>l[p]? :=bA (by kernel_rfl) b p sp h
theorem VQ (p:Option Addr) (n m:Nat) (h:Heap):mg CC 135 (.slice p n m) h=some (.int .i64 n):=cj CC 135 h p n m _ uU
theorem mZ:CC.size 138=some 2:=by kernel_rfl
theorem Aj:CC.zero 138=some (.agg ⟨[.slice none 0 0, .int .i64 0]⟩):=by kernel_rfl
theorem A9 (l:List Value) (p:Nat):cO CC 138 l p=ae (aA l p 2) fun l=>some (br l):=dp (by kernel_rfl) mZ l p
theorem YL (b p:Nat) (sp:Option Nat) (h:Heap):bx CC 138 (.pointer (some ⟨b,p,sp⟩)) h=ae (rowAt h b) fun l=>ae (aA l p 2) fun l=>some (br l):=bK (by kernel_rfl) mZ b p sp h
theorem xV:CC.fieldAt 138 0=some (0,22,1):=by kernel_rfl
theorem Sh (b p:Nat) (sp:Option Nat):ai CC 138 (.pointer (some ⟨b,p,sp⟩)) 0=some (.val (.pointer (some ⟨b,p+0,none⟩))):=ah xV rfl b p sp
theorem xU:CC.fieldAt 138 1=some (1,3,1):=by kernel_rfl
theorem HO (b p:Nat) (sp:Option Nat):ai CC 138 (.pointer (some ⟨b,p,sp⟩)) 1=some (.val (.pointer (some ⟨b,p+1,none⟩))):=ah xU rfl b p sp
theorem PS:CC.size 140=some 1:=by kernel_rfl
theorem Oa:CC.zero 140=some (.nilFunc):=by kernel_rfl
theorem Rd (b p:Nat) (sp:Option Nat) (h:Heap):bx CC 140 (.pointer (some ⟨b,p,sp⟩)) h=ae (rowAt h b) fun l=>l[p]? :=bA (by kernel_rfl) b p sp h
theorem lJ:CC.size 143=some 6:=by kernel_rfl
theorem vq (l:List Value) (p:Nat):cO CC 143 l p=ae (aA l p 6) fun l=>some (br l):=dp (by kernel_rfl) lJ l p
theorem YK (b p:Nat) (sp:Option Nat) (h:Heap):bx CC 143 (.pointer (some ⟨b,p,sp⟩)) h=ae (rowAt h b) fun l=>ae (aA l p 6) fun l=>some (br l):=bK (by kernel_rfl) lJ b p sp h
theorem Nf:CC.fieldAt 143 0=some (0,40,6):=by kernel_rfl
theorem Sg (b p:Nat) (sp:Option Nat):ai CC 143 (.pointer (some ⟨b,p,sp⟩)) 0=some (.val (.pointer (some ⟨b,p+0,none⟩))):=ah Nf rfl b p sp
theorem PQ:CC.size 154=some 1:=by kernel_rfl
theorem N9:CC.zero 154=some (.pointer none):=by kernel_rfl
theorem UZ:CC.und 154=some (.pointer 257):=by kernel_rfl
theorem YJ (b p:Nat) (sp:Option Nat) (h:Heap):bx CC 154 (.pointer (some ⟨b,p,sp⟩)) h=ae (rowAt h b) fun l=>l[p]? :=bA (by kernel_rfl) b p sp h
theorem YI (b p:Nat) (sp:Option Nat) (h:Heap):bx CC 163 (.pointer (some ⟨b,p,sp⟩)) h=ae (rowAt h b) fun l=>l[p]? :=bA (by kernel_rfl) b p sp h
theorem YH (b p:Nat) (sp:Option Nat) (h:Heap):bx CC 164 (.pointer (some ⟨b,p,sp⟩)) h=ae (rowAt h b) fun l=>l[p]? :=bA (by kernel_rfl) b p sp h
theorem lI:CC.size 166=some 5:=by kernel_rfl
theorem vp (l:List Value) (p:Nat):cO CC 166 l p=ae (aA l p 5) fun l=>some (br l):=dp (by kernel_rfl) lI l p
theorem Rc (b p:Nat) (sp:Option Nat) (h:Heap):bx CC 166 (.pointer (some ⟨b,p,sp⟩)) h=ae (rowAt h b) fun l=>ae (aA l p 5) fun l=>some (br l):=bK (by kernel_rfl) lI b p sp h
theorem Nd:CC.fieldAt 166 0=some (0,163,1):=by kernel_rfl
theorem Sf (b p:Nat) (sp:Option Nat):ai CC 166 (.pointer (some ⟨b,p,sp⟩)) 0=some (.val (.pointer (some ⟨b,p+0,none⟩))):=ah Nd rfl b p sp
theorem Nc:CC.fieldAt 166 1=some (1,3,1):=by kernel_rfl
theorem Se (b p:Nat) (sp:Option Nat):ai CC 166 (.pointer (some ⟨b,p,sp⟩)) 1=some (.val (.pointer (some ⟨b,p+1,none⟩))):=ah Nc rfl b p sp
theorem Nb:CC.fieldAt 166 2=some (2,3,1):=by kernel_rfl
theorem Sd (b p:Nat) (sp:Option Nat):ai CC 166 (.pointer (some ⟨b,p,sp⟩)) 2=some (.val (.pointer (some ⟨b,p+2,none⟩))):=ah Nb rfl b p sp
theorem Na:CC.fieldAt 166 3=some (3,164,1):=by kernel_rfl
theorem Sc (b p:Nat) (sp:Option Nat):ai CC 166 (.pointer (some ⟨b,p,sp⟩)) 3=some (.val (.pointer (some ⟨b,p+3,none⟩))):=ah Na rfl b p sp
theorem Gz:CC.size 168=some 1:=by kernel_rfl
theorem FQ:CC.zero 168=some (.map none):=by kernel_rfl
theorem zo:CC.und 168=some (.map 285 3):=by kernel_rfl
theorem YG (b p:Nat) (sp:Option Nat) (h:Heap):bx CC 168 (.pointer (some ⟨b,p,sp⟩)) h=ae (rowAt h b) fun l=>l[p]? :=bA (by kernel_rfl) b p sp h
theorem Gy:CC.size 170=some 7:=by kernel_rfl
theorem FP:CC.zero 170=some (.agg ⟨[.int .i64 0, .slice none 0 0, .slice none 0 0, .slice none 0 0, .map none, .int .i64 0, .int .i64 0]⟩):=by kernel_rfl
theorem q8 (b p:Nat) (sp:Option Nat) (h:Heap):bx CC 170 (.pointer (some ⟨b,p,sp⟩)) h=ae (rowAt h b) fun l=>ae (aA l p 7) fun l=>some (br l):=bK (by kernel_rfl) Gy b p sp h
theorem xT:CC.fieldAt 170 0=some (0,38,3):=by kernel_rfl
theorem BT (b p:Nat) (sp:Option Nat):ai CC 170 (.pointer (some ⟨b,p,sp⟩)) 0=some (.val (.pointer (some ⟨b,p+0,none⟩))):=ah xT rfl b p sp
theorem xS:CC.fieldAt 170 1=some (3,22,1):=by kernel_rfl
theorem Sb (b p:Nat) (sp:Option Nat):ai CC 170 (.pointer (some ⟨b,p,sp⟩)) 1=some (.val (.pointer (some ⟨b,p+3,none⟩))):=ah xS rfl b p sp
theorem xR:CC.fieldAt 170 2=some (4,168,1):=by kernel_rfl
theorem Sa (b p:Nat) (sp:Option Nat):ai CC 170 (.pointer (some ⟨b,p,sp⟩)) 2=some (.val (.pointer (some ⟨b,p+4,none⟩))):=ah xR rfl b p sp
theorem xQ:CC.fieldAt 170 3=some (5,3,1):=by kernel_rfl
theorem R5 (b p:Nat) (sp:Option Nat):ai CC 170 (.pointer (some ⟨b,p,sp⟩)) 3=some (.val (.pointer (some ⟨b,p+5,none⟩))):=ah xQ rfl b p sp
theorem xP:CC.fieldAt 170 4=some (6,3,1):=by kernel_rfl
theorem RZ (b p:Nat) (sp:Option Nat):ai CC 170 (.pointer (some ⟨b,p,sp⟩)) 4=some (.val (.pointer (some ⟨b,p+6,none⟩))):=ah xP rfl b p sp
theorem mY:CC.size 172=some 1:=by kernel_rfl
theorem Qy (l:List Value) (p:Nat):cO CC 172 l p=l[p]? :=ig (by kernel_rfl) l p
theorem YF (b p:Nat) (sp:Option Nat) (h:Heap):bx CC 172 (.pointer (some ⟨b,p,sp⟩)) h=ae (rowAt h b) fun l=>l[p]? :=bA (by kernel_rfl) b p sp h
theorem dh:CC.size 181=some 1:=by kernel_rfl
theorem G3 (l:List Value) (p:Nat):cO CC 181 l p=l[p]? :=ig (by kernel_rfl) l p
theorem AL:CC.size 182=some 16:=by kernel_rfl
theorem Ai:CC.zero 182=some (.agg ⟨[.nilFunc, .nilFunc, .nilFunc, .nilFunc, .nilFunc, .nilFunc, .nilFunc, .nilFunc, .nilFunc, .nilFunc, .nilFunc, .nilFunc, .nilFunc, .nilFunc, .nilFunc, .nilFunc]⟩):=by kernel_rfl
theorem dP:CC.und 182=some (.array 16 181):=by kernel_rfl
theorem YE (b p:Nat) (sp:Option Nat) (h:Heap):bx CC 182 (.pointer (some ⟨b,p,sp⟩)) h=ae (rowAt h b) fun l=>ae (aA l p 16) fun l=>some (br l):=bK (by kernel_rfl) AL b p sp h
theorem jX:CC.size 200=some 4:=by kernel_rfl
theorem FO:CC.zero 200=some (.agg ⟨[.int .i64 0, .int .i64 0, .int .i64 0, .int .i64 0]⟩):=by kernel_rfl
theorem qV (l:List Value) (p:Nat):cO CC 200 l p=ae (aA l p 4) fun l=>some (br l):=dp (by kernel_rfl) jX l p
theorem Rb (b p:Nat) (sp:Option Nat) (h:Heap):bx CC 200 (.pointer (some ⟨b,p,sp⟩)) h=ae (rowAt h b) fun l=>ae (aA l p 4) fun l=>some (br l):=bK (by kernel_rfl) jX b p sp h
theorem M9:CC.fieldAt 200 0=some (0,3,1):=by kernel_rfl
theorem rC (b p:Nat) (sp:Option Nat):ai CC 200 (.pointer (some ⟨b,p,sp⟩)) 0=some (.val (.pointer (some ⟨b,p+0,none⟩))):=ah M9 rfl b p sp
theorem M8:CC.fieldAt 200 1=some (1,3,1):=by kernel_rfl
theorem rz (b p:Nat) (sp:Option Nat):ai CC 200 (.pointer (some ⟨b,p,sp⟩)) 1=some (.val (.pointer (some ⟨b,p+1,none⟩))):=ah M8 rfl b p sp
theorem M7:CC.fieldAt 200 2=some (2,25,2):=by kernel_rfl
theorem HN (b p:Nat) (sp:Option Nat):ai CC 200 (.pointer (some ⟨b,p,sp⟩)) 2=some (.val (.pointer (some ⟨b,p+2,none⟩))):=ah M7 rfl b p sp
theorem jW:CC.size 206=some 2:=by kernel_rfl
theorem N8:CC.zero 206=some (.agg ⟨[.int .i64 0, .int .i64 0]⟩):=by kernel_rfl
theorem qU (l:List Value) (p:Nat):cO CC 206 l p=ae (aA l p 2) fun l=>some (br l):=dp (by kernel_rfl) jW l p
theorem Ra (b p:Nat) (sp:Option Nat) (h:Heap):bx CC 206 (.pointer (some ⟨b,p,sp⟩)) h=ae (rowAt h b) fun l=>ae (aA l p 2) fun l=>some (br l):=bK (by kernel_rfl) jW b p sp h
theorem M6:CC.fieldAt 206 0=some (0,3,1):=by kernel_rfl
theorem BS (b p:Nat) (sp:Option Nat):ai CC 206 (.pointer (some ⟨b,p,sp⟩)) 0=some (.val (.pointer (some ⟨b,p+0,none⟩))):=ah M6 rfl b p sp
theorem M5:CC.fieldAt 206 1=some (1,3,1):=by kernel_rfl
theorem BR (b p:Nat) (sp:Option Nat):ai CC 206 (.pointer (some ⟨b,p,sp⟩)) 1=some (.val (.pointer (some ⟨b,p+1,none⟩))):=ah M5 rfl b p sp
theorem Gx:CC.size 221=some 2:=by kernel_rfl
theorem Ah:CC.zero 221=some (.agg ⟨[.int .i64 0, .int .i64 0]⟩):=by kernel_rfl
theorem xO:CC.fieldAt 221 0=some (0,3,1):=by kernel_rfl
theorem xN:CC.fieldAt 221 1=some (1,3,1):=by kernel_rfl
theorem Gw:CC.size 228=some 5:=by kernel_rfl
theorem FM:CC.zero 228=some (.agg ⟨[.slice none 0 0, .slice none 0 0, .slice none 0 0, .slice none 0 0, .slice none 0 0]⟩):=by kernel_rfl
theorem lP (b p:Nat) (sp:Option Nat) (h:Heap):bx CC 228 (.pointer (some ⟨b,p,sp⟩)) h=ae (rowAt h b) fun l=>ae (aA l p 5) fun l=>some (br l):=bK (by kernel_rfl) Gw b p sp h
theorem xM:CC.fieldAt 228 0=some (0,32,3):=by kernel_rfl
theorem ry (b p:Nat) (sp:Option Nat):ai CC 228 (.pointer (some ⟨b,p,sp⟩)) 0=some (.val (.pointer (some ⟨b,p+0,none⟩))):=ah xM rfl b p sp
theorem xL:CC.fieldAt 228 1=some (3,22,1):=by kernel_rfl
theorem BQ (b p:Nat) (sp:Option Nat):ai CC 228 (.pointer (some ⟨b,p,sp⟩)) 1=some (.val (.pointer (some ⟨b,p+3,none⟩))):=ah xL rfl b p sp
theorem xK:CC.fieldAt 228 2=some (4,22,1):=by kernel_rfl
theorem BP (b p:Nat) (sp:Option Nat):ai CC 228 (.pointer (some ⟨b,p,sp⟩)) 2=some (.val (.pointer (some ⟨b,p+4,none⟩))):=ah xK rfl b p sp
theorem Gv:CC.size 232=some 1:=by kernel_rfl
theorem FL:CC.zero 232=some (.nilFunc):=by kernel_rfl
theorem By (b p:Nat) (sp:Option Nat) (h:Heap):bx CC 232 (.pointer (some ⟨b,p,sp⟩)) h=ae (rowAt h b) fun l=>l[p]? :=bA (by kernel_rfl) b p sp h
theorem Gu:CC.size 234=some 1:=by kernel_rfl
theorem Af:CC.zero 234=some (.agg ⟨[.int .i64 0]⟩):=by kernel_rfl
theorem DO:CC.fieldAt 234 0=some (0,3,1):=by kernel_rfl
theorem PP:CC.size 236=some 1:=by kernel_rfl
theorem N7:CC.zero 236=some (.agg ⟨[.string ⟨⟨[]⟩⟩]⟩):=by kernel_rfl
theorem Gt:CC.size 237=some 1:=by kernel_rfl
theorem FK:CC.zero 237=some (.nilFunc):=by kernel_rfl
theorem Jy (b p:Nat) (sp:Option Nat) (h:Heap):bx CC 237 (.pointer (some ⟨b,p,sp⟩)) h=ae (rowAt h b) fun l=>l[p]? :=bA (by kernel_rfl) b p sp h
theorem PN:CC.size 255=some 1:=by kernel_rfl
theorem N6:CC.zero 255=some (.map none):=by kernel_rfl
theorem KH:CC.und 255=some (.map 3 4):=by kernel_rfl
theorem YD (b p:Nat) (sp:Option Nat) (h:Heap):bx CC 255 (.pointer (some ⟨b,p,sp⟩)) h=ae (rowAt h b) fun l=>l[p]? :=bA (by kernel_rfl) b p sp h
theorem PM:CC.size 257=some 44:=by kernel_rfl
theorem xJ:CC.fieldAt 257 0=some (0,49,35):=by kernel_rfl
theorem lU (b p:Nat) (sp:Option Nat):ai CC 257 (.pointer (some ⟨b,p,sp⟩)) 0=some (.val (.pointer (some ⟨b,p+0,none⟩))):=ah xJ rfl b p sp
theorem DN:CC.fieldAt 257 1=some (35,3,1):=by kernel_rfl
theorem xI:CC.fieldAt 257 2=some (36,22,1):=by kernel_rfl
theorem HM (b p:Nat) (sp:Option Nat):ai CC 257 (.pointer (some ⟨b,p,sp⟩)) 2=some (.val (.pointer (some ⟨b,p+36,none⟩))):=ah xI rfl b p sp
theorem DM:CC.fieldAt 257 3=some (37,3,1):=by kernel_rfl
theorem xH:CC.fieldAt 257 4=some (38,255,1):=by kernel_rfl
theorem RY (b p:Nat) (sp:Option Nat):ai CC 257 (.pointer (some ⟨b,p,sp⟩)) 4=some (.val (.pointer (some ⟨b,p+38,none⟩))):=ah xH rfl b p sp
theorem xG:CC.fieldAt 257 5=some (39,22,1):=by kernel_rfl
theorem RX (b p:Nat) (sp:Option Nat):ai CC 257 (.pointer (some ⟨b,p,sp⟩)) 5=some (.val (.pointer (some ⟨b,p+39,none⟩))):=ah xG rfl b p sp
theorem xF:CC.fieldAt 257 6=some (40,22,1):=by kernel_rfl
theorem RW (b p:Nat) (sp:Option Nat):ai CC 257 (.pointer (some ⟨b,p,sp⟩)) 6=some (.val (.pointer (some ⟨b,p+40,none⟩))):=ah xF rfl b p sp
theorem DL:CC.fieldAt 257 7=some (41,3,1):=by kernel_rfl
theorem xE:CC.fieldAt 257 8=some (42,22,1):=by kernel_rfl
theorem RV (b p:Nat) (sp:Option Nat):ai CC 257 (.pointer (some ⟨b,p,sp⟩)) 8=some (.val (.pointer (some ⟨b,p+42,none⟩))):=ah xE rfl b p sp
theorem xD:CC.fieldAt 257 9=some (43,22,1):=by kernel_rfl
theorem HL (b p:Nat) (sp:Option Nat):ai CC 257 (.pointer (some ⟨b,p,sp⟩)) 9=some (.val (.pointer (some ⟨b,p+43,none⟩))):=ah xD rfl b p sp
theorem Gs:CC.size 285=some 2:=by kernel_rfl
theorem FI:CC.zero 285=some (.agg ⟨[.int .i64 0, .int .i64 0]⟩):=by kernel_rfl
theorem YC (b p:Nat) (sp:Option Nat) (h:Heap):bx CC 285 (.pointer (some ⟨b,p,sp⟩)) h=ae (rowAt h b) fun l=>ae (aA l p 2) fun l=>some (br l):=bK (by kernel_rfl) Gs b p sp h
theorem DK:CC.fieldAt 285 0=some (0,3,1):=by kernel_rfl
theorem DJ:CC.fieldAt 285 1=some (1,3,1):=by kernel_rfl
theorem lG:CC.size 287=some 1:=by kernel_rfl
theorem Qx (l:List Value) (p:Nat):cO CC 287 l p=l[p]? :=ig (by kernel_rfl) l p
theorem YB (b p:Nat) (sp:Option Nat) (h:Heap):bx CC 287 (.pointer (some ⟨b,p,sp⟩)) h=ae (rowAt h b) fun l=>l[p]? :=bA (by kernel_rfl) b p sp h
theorem PL:CC.size 289=some 5:=by kernel_rfl
theorem FH:CC.zero 289=some (.agg ⟨[.int .i64 0, .bool false, .int .i64 0, .int .i64 0, .slice none 0 0]⟩):=by kernel_rfl
theorem xC:CC.fieldAt 289 0=some (0,96,5):=by kernel_rfl
theorem HK (b p:Nat) (sp:Option Nat):ai CC 289 (.pointer (some ⟨b,p,sp⟩)) 0=some (.val (.pointer (some ⟨b,p+0,none⟩))):=ah xC rfl b p sp
theorem PJ:CC.size 290=some 2:=by kernel_rfl
theorem FG:CC.zero 290=some (.agg ⟨[.nilFunc, .nilFunc]⟩):=by kernel_rfl
theorem oL:CC.und 290=some (.array 2 287):=by kernel_rfl
theorem YA (b p:Nat) (sp:Option Nat) (h:Heap):bx CC 310 (.pointer (some ⟨b,p,sp⟩)) h=ae (rowAt h b) fun l=>l[p]? :=bA (by kernel_rfl) b p sp h
theorem iG:CC.size 314=some 2:=by kernel_rfl
theorem Ad:CC.zero 314=some (.agg ⟨[.int .i64 0, .int .i64 0]⟩):=by kernel_rfl
theorem nK (l:List Value) (p:Nat):cO CC 314 l p=ae (aA l p 2) fun l=>some (br l):=dp (by kernel_rfl) iG l p
theorem Q9 (b p:Nat) (sp:Option Nat) (h:Heap):bx CC 314 (.pointer (some ⟨b,p,sp⟩)) h=ae (rowAt h b) fun l=>ae (aA l p 2) fun l=>some (br l):=bK (by kernel_rfl) iG b p sp h
theorem xB:CC.fieldAt 314 0=some (0,3,1):=by kernel_rfl
theorem RU (b p:Nat) (sp:Option Nat):ai CC 314 (.pointer (some ⟨b,p,sp⟩)) 0=some (.val (.pointer (some ⟨b,p+0,none⟩))):=ah xB rfl b p sp
theorem xz:CC.fieldAt 314 1=some (1,3,1):=by kernel_rfl
theorem RS (b p:Nat) (sp:Option Nat):ai CC 314 (.pointer (some ⟨b,p,sp⟩)) 1=some (.val (.pointer (some ⟨b,p+1,none⟩))):=ah xz rfl b p sp
theorem Gq:CC.size 315=some 1:=by kernel_rfl
theorem FE:CC.zero 315=some (.slice none 0 0):=by kernel_rfl
theorem zn:CC.und 315=some (.slice 319):=by kernel_rfl
theorem VP (p:Option Addr) (n m:Nat) (h:Heap):mg CC 315 (.slice p n m) h=some (.int .i64 n):=cj CC 315 h p n m _ zn
theorem AK:CC.size 317=some 1:=by kernel_rfl
theorem Ac:CC.zero 317=some (.slice none 0 0):=by kernel_rfl
theorem uT:CC.und 317=some (.slice 381):=by kernel_rfl
theorem Jx (b p:Nat) (sp:Option Nat) (h:Heap):bx CC 317 (.pointer (some ⟨b,p,sp⟩)) h=ae (rowAt h b) fun l=>l[p]? :=bA (by kernel_rfl) b p sp h
theorem La (p:Option Addr) (n m:Nat) (h:Heap):mg CC 317 (.slice p n m) h=some (.int .i64 n):=cj CC 317 h p n m _ uT
theorem qN:CC.size 319=some 2:=by kernel_rfl
theorem Ab:CC.zero 319=some (.agg ⟨[.slice none 0 0, .bool false]⟩):=by kernel_rfl
theorem G2 (l:List Value) (p:Nat):cO CC 319 l p=ae (aA l p 2) fun l=>some (br l):=dp (by kernel_rfl) qN l p
theorem Jw (b p:Nat) (sp:Option Nat) (h:Heap):bx CC 319 (.pointer (some ⟨b,p,sp⟩)) h=ae (rowAt h b) fun l=>ae (aA l p 2) fun l=>some (br l):=bK (by kernel_rfl) qN b p sp h
theorem xy:CC.fieldAt 319 0=some (0,317,1):=by kernel_rfl
theorem BO (b p:Nat) (sp:Option Nat):ai CC 319 (.pointer (some ⟨b,p,sp⟩)) 0=some (.val (.pointer (some ⟨b,p+0,none⟩))):=ah xy rfl b p sp
theorem xx:CC.fieldAt 319 1=some (1,4,1):=by kernel_rfl
theorem HJ (b p:Nat) (sp:Option Nat):ai CC 319 (.pointer (some ⟨b,p,sp⟩)) 1=some (.val (.pointer (some ⟨b,p+1,none⟩))):=ah xx rfl b p sp
theorem Gp:CC.size 322=some 1:=by kernel_rfl
theorem Aa:CC.zero 322=some (.agg ⟨[.int .i64 0]⟩):=by kernel_rfl
theorem DI:CC.fieldAt 322 0=some (0,3,1):=by kernel_rfl
theorem AI:CC.size 329=some 1:=by kernel_rfl
theorem zZ:CC.zero 329=some (.map none):=by kernel_rfl
theorem kE:CC.und 329=some (.map 387 4):=by kernel_rfl
theorem Yz (b p:Nat) (sp:Option Nat) (h:Heap):bx CC 329 (.pointer (some ⟨b,p,sp⟩)) h=ae (rowAt h b) fun l=>l[p]? :=bA (by kernel_rfl) b p sp h
theorem mX:CC.size 333=some 2:=by kernel_rfl
theorem mQ:CC.zero 333=some (.agg ⟨[.int .i64 0, .int .i64 0]⟩):=by kernel_rfl
theorem Q8 (b p:Nat) (sp:Option Nat) (h:Heap):bx CC 333 (.pointer (some ⟨b,p,sp⟩)) h=ae (rowAt h b) fun l=>ae (aA l p 2) fun l=>some (br l):=bK (by kernel_rfl) mX b p sp h
theorem xu:CC.fieldAt 333 0=some (0,3,1):=by kernel_rfl
theorem xr:CC.fieldAt 333 1=some (1,331,1):=by kernel_rfl
theorem UY:CC.und 345=some (.int .u64):=by kernel_rfl
theorem PI:CC.size 379=some 1:=by kernel_rfl
theorem N5:CC.zero 379=some (.agg ⟨[.string ⟨⟨[]⟩⟩]⟩):=by kernel_rfl
theorem mW:CC.size 381=some 2:=by kernel_rfl
theorem uL:CC.zero 381=some (.agg ⟨[.int .i64 0, .int .i64 0]⟩):=by kernel_rfl
theorem A8 (l:List Value) (p:Nat):cO CC 381 l p=ae (aA l p 2) fun l=>some (br l):=dp (by kernel_rfl) mW l p
theorem Jv (b p:Nat) (sp:Option Nat) (h:Heap):bx CC 381 (.pointer (some ⟨b,p,sp⟩)) h=ae (rowAt h b) fun l=>ae (aA l p 2) fun l=>some (br l):=bK (by kernel_rfl) mW b p sp h
theorem xq:CC.fieldAt 381 0=some (0,3,1):=by kernel_rfl
theorem BN (b p:Nat) (sp:Option Nat):ai CC 381 (.pointer (some ⟨b,p,sp⟩)) 0=some (.val (.pointer (some ⟨b,p+0,none⟩))):=ah xq rfl b p sp
theorem xp:CC.fieldAt 381 1=some (1,3,1):=by kernel_rfl
theorem HH (b p:Nat) (sp:Option Nat):ai CC 381 (.pointer (some ⟨b,p,sp⟩)) 1=some (.val (.pointer (some ⟨b,p+1,none⟩))):=ah xp rfl b p sp
theorem mV:CC.size 382=some 1:=by kernel_rfl
theorem Qw (l:List Value) (p:Nat):cO CC 382 l p=l[p]? :=ig (by kernel_rfl) l p
theorem PH:CC.size 383=some 2:=by kernel_rfl
theorem FD:CC.zero 383=some (.agg ⟨[.nilFunc, .nilFunc]⟩):=by kernel_rfl
theorem sF:CC.und 383=some (.array 2 382):=by kernel_rfl
theorem Gn:CC.size 387=some 2:=by kernel_rfl
theorem FC:CC.zero 387=some (.agg ⟨[.int .i64 0, .int .i64 0]⟩):=by kernel_rfl
theorem Yy (b p:Nat) (sp:Option Nat) (h:Heap):bx CC 387 (.pointer (some ⟨b,p,sp⟩)) h=ae (rowAt h b) fun l=>ae (aA l p 2) fun l=>some (br l):=bK (by kernel_rfl) Gn b p sp h
theorem DH:CC.fieldAt 387 0=some (0,3,1):=by kernel_rfl
theorem DG:CC.fieldAt 387 1=some (1,3,1):=by kernel_rfl
theorem PG:CC.size 390=some 1:=by kernel_rfl
theorem N4:CC.zero 390=some (.agg ⟨[.string ⟨⟨[]⟩⟩]⟩):=by kernel_rfl
theorem PF:CC.size 432=some 2:=by kernel_rfl
theorem FB:CC.zero 432=some (.agg ⟨[.nilFunc, .nilFunc]⟩):=by kernel_rfl
theorem sE:CC.und 432=some (.array 2 172):=by kernel_rfl
theorem mi_9 (v:Value):fM CC 9 v=some (.val (.iface 9 v)):=pi (by kernel_rfl) v
theorem cG (b o:Nat) (sp:Option Nat) (len cap i:Nat) (hi:i<len):aD CC 22 (.slice (some ⟨b,o,sp⟩) len cap) (.int .i64 i)=some (.pointer (some ⟨b,o+i*1,none⟩)):=dM bm ba b o sp len cap i hi
theorem eF {v:Value} (h:cellsOf v=[v]):bn CC 22 1 [(0,v)]=some (.new (.row [v] 1 true) (aG 1 1 1)):=rJ bm ba Ae rfl h
theorem kr:AppT CC 22 22 1:=qE (by kernel_rfl)
theorem Hr (b o:Nat) (sp:Option Nat) (len cap i:Nat) (hi:i<len):aD CC 23 (.slice (some ⟨b,o,sp⟩) len cap) (.int .i64 i)=some (.pointer (some ⟨b,o+i*4,none⟩)):=dM oN jX b o sp len cap i hi
theorem Vl:ak CC 25 0=some (0,1):=ao B2
theorem Vk:ak CC 25 1=some (1,1):=ao B0
theorem Zl (p:List (Nat×Value)):cJ CC 25 p=ae (bu (ak CC 25) p [.int .i64 0, .int .i64 0]) fun l=>some (br l):=bL (by kernel_rfl) oJ p
theorem tO (b o:Nat) (sp:Option Nat) (len cap i:Nat) (hi:i<len):aD CC 26 (.slice (some ⟨b,o,sp⟩) len cap) (.int .i64 i)=some (.pointer (some ⟨b,o+i*3,none⟩)):=dM ji gv b o sp len cap i hi
theorem Hq (b o:Nat) (sp:Option Nat) (len cap i:Nat) (hi:i<len):aD CC 29 (.slice (some ⟨b,o,sp⟩) len cap) (.int .i64 i)=some (.pointer (some ⟨b,o+i*2,none⟩)):=dM oM eU b o sp len cap i hi
theorem Hp (b o:Nat) (sp:Option Nat) (len cap i:Nat) (hi:i<len):aD CC 30 (.slice (some ⟨b,o,sp⟩) len cap) (.int .i64 i)=some (.pointer (some ⟨b,o+i*2,none⟩)):=dM oK jW b o sp len cap i hi
theorem tM (b o:Nat) (sp:Option Nat) (len cap i:Nat) (hi:i<len):aD CC 33 (.slice (some ⟨b,o,sp⟩) len cap) (.int .i64 i)=some (.pointer (some ⟨b,o+i*1,none⟩)):=dM jh aV b o sp len cap i hi
theorem LG {v:Value} (h:cellsOf v=[v]):bn CC 33 1 [(0,v)]=some (.new (.row [v] 1 true) (aG 1 1 1)):=rJ jh aV bh rfl h
theorem vB (b o:Nat) (sp:Option Nat) (len cap i:Nat) (hi:i<len):aD CC 36 (.slice (some ⟨b,o,sp⟩) len cap) (.int .i64 i)=some (.pointer (some ⟨b,o+i*5,none⟩)):=dM jC gq b o sp len cap i hi
theorem Lo (b o:Nat) (sp:Option Nat):aD CC 39 (.pointer (some ⟨b,o,sp⟩)) (.int .i64 0)=some (.pointer (some ⟨b,o+0,none⟩)):=aH tX ba b o sp 0 (by decide)
theorem UK (l:List Value):cD CC 39 (.agg ⟨l⟩) (.int .i64 0)=l[0]? :=bD tX ba (by kernel_rfl) l 0 (by decide)
theorem Ln (b o:Nat) (sp:Option Nat):aD CC 39 (.pointer (some ⟨b,o,sp⟩)) (.int .i64 1)=some (.pointer (some ⟨b,o+1,none⟩)):=aH tX ba b o sp 1 (by decide)
theorem UJ (l:List Value):cD CC 39 (.agg ⟨l⟩) (.int .i64 1)=l[1]? :=bD tX ba (by kernel_rfl) l 1 (by decide)
theorem Lm (b o:Nat) (sp:Option Nat):aD CC 39 (.pointer (some ⟨b,o,sp⟩)) (.int .i64 2)=some (.pointer (some ⟨b,o+2,none⟩)):=aH tX ba b o sp 2 (by decide)
theorem UI (l:List Value):cD CC 39 (.agg ⟨l⟩) (.int .i64 2)=l[2]? :=bD tX ba (by kernel_rfl) l 2 (by decide)
theorem EG (b o:Nat) (sp:Option Nat):aD CC 40 (.pointer (some ⟨b,o,sp⟩)) (.int .i64 0)=some (.pointer (some ⟨b,o+0,none⟩)):=aH Au eU b o sp 0 (by decide)
theorem EF (b o:Nat) (sp:Option Nat):aD CC 40 (.pointer (some ⟨b,o,sp⟩)) (.int .i64 1)=some (.pointer (some ⟨b,o+2,none⟩)):=aH Au eU b o sp 1 (by decide)
theorem EE (b o:Nat) (sp:Option Nat):aD CC 40 (.pointer (some ⟨b,o,sp⟩)) (.int .i64 2)=some (.pointer (some ⟨b,o+4,none⟩)):=aH Au eU b o sp 2 (by decide)
theorem Li (b o:Nat) (sp:Option Nat) (len cap i:Nat) (hi:i<len):aD CC 41 (.slice (some ⟨b,o,sp⟩) len cap) (.int .i64 i)=some (.pointer (some ⟨b,o+i*6,none⟩)):=dM qJ lJ b o sp len cap i hi
theorem Lh (b o:Nat) (sp:Option Nat) (len cap i:Nat) (hi:i<len):aD CC 44 (.slice (some ⟨b,o,sp⟩) len cap) (.int .i64 i)=some (.pointer (some ⟨b,o+i*5,none⟩)):=dM qI oU b o sp len cap i hi
theorem Lg (b o:Nat) (sp:Option Nat) (len cap i:Nat) (hi:i<len):aD CC 45 (.slice (some ⟨b,o,sp⟩) len cap) (.int .i64 i)=some (.pointer (some ⟨b,o+i*5,none⟩)):=dM qH lI b o sp len cap i hi
theorem Dy (b o:Nat) (sp:Option Nat) (len cap i:Nat) (hi:i<len):aD CC 56 (.slice (some ⟨b,o,sp⟩) len cap) (.int .i64 i)=some (.pointer (some ⟨b,o+i*2,none⟩)):=dM lv iG b o sp len cap i hi
theorem KR:ak CC 58 0=some (0,1):=ao vO
theorem KQ:ak CC 58 1=some (1,1):=ao vN
theorem TF (p:List (Nat×Value)):cJ CC 58 p=ae (bu (ak CC 58) p [.slice none 0 0, .slice none 0 0]) fun l=>some (br l):=bL (by kernel_rfl) jM p
theorem Vj:ak CC 92 0=some (0,1):=ao BZ
theorem Vi:ak CC 92 1=some (1,1):=ao BY
theorem Zk (p:List (Nat×Value)):cJ CC 92 p=ae (bu (ak CC 92) p [.int .i64 0, .slice none 0 0]) fun l=>some (br l):=bL (by kernel_rfl) KA p
theorem Vh:ak CC 94 0=some (0,1):=ao BW
theorem Vg:ak CC 94 1=some (1,1):=ao BV
theorem Vf:ak CC 94 2=some (2,1):=ao BU
theorem Zj (p:List (Nat×Value)):cJ CC 94 p=ae (bu (ak CC 94) p [.slice none 0 0, .slice none 0 0, .bool false]) fun l=>some (br l):=bL (by kernel_rfl) zi p
theorem YR (b o:Nat) (sp:Option Nat) (len cap i:Nat) (hi:i<len):aD CC 108 (.slice (some ⟨b,o,sp⟩) len cap) (.int .i64 i)=some (.pointer (some ⟨b,o+i*2,none⟩)):=dM Ea u5 b o sp len cap i hi
theorem PB:ak CC 110 0=some (0,1):=ao yc
theorem PA:ak CC 110 1=some (1,35):=ao yb
theorem Pz:ak CC 110 2=some (36,1):=ao ya
theorem Py:ak CC 114 0=some (0,10):=ao xZ
theorem Px:ak CC 114 1=some (10,1):=ao xY
theorem WQ (p:List (Nat×Value)):cJ CC 114 p=ae (bu (ak CC 114) p [.slice none 0 0, .slice none 0 0, .int .i64 0, .int .i64 0, .int .i64 0, .int .i64 0, .int .i64 0, .slice none 0 0, .int .i64 0, .int .i64 0, .map none]) fun l=>some (br l):=bL (by kernel_rfl) Al p
theorem JC (b o:Nat) (sp:Option Nat) (len cap i:Nat) (hi:i<len):aD CC 116 (.slice (some ⟨b,o,sp⟩) len cap) (.int .i64 i)=some (.pointer (some ⟨b,o+i*2,none⟩)):=dM uV ia b o sp len cap i hi
theorem LL (p:List (Nat×Value)):cJ CC 128 p=ae (bu (eX 1) p [.bool false, .bool false, .bool false, .bool false, .bool false, .bool false]) fun l=>some (br l):=j9 dQ fp mR p
theorem BI (b o:Nat) (sp:Option Nat):aD CC 128 (.pointer (some ⟨b,o,sp⟩)) (.int .i64 0)=some (.pointer (some ⟨b,o+0,none⟩)):=aH dQ fp b o sp 0 (by decide)
theorem As (l:List Value):cD CC 128 (.agg ⟨l⟩) (.int .i64 0)=l[0]? :=bD dQ fp (by kernel_rfl) l 0 (by decide)
theorem BH (b o:Nat) (sp:Option Nat):aD CC 128 (.pointer (some ⟨b,o,sp⟩)) (.int .i64 1)=some (.pointer (some ⟨b,o+1,none⟩)):=aH dQ fp b o sp 1 (by decide)
theorem Ar (l:List Value):cD CC 128 (.agg ⟨l⟩) (.int .i64 1)=l[1]? :=bD dQ fp (by kernel_rfl) l 1 (by decide)
theorem BG (b o:Nat) (sp:Option Nat):aD CC 128 (.pointer (some ⟨b,o,sp⟩)) (.int .i64 2)=some (.pointer (some ⟨b,o+2,none⟩)):=aH dQ fp b o sp 2 (by decide)
theorem Aq (l:List Value):cD CC 128 (.agg ⟨l⟩) (.int .i64 2)=l[2]? :=bD dQ fp (by kernel_rfl) l 2 (by decide)
theorem BF (b o:Nat) (sp:Option Nat):aD CC 128 (.pointer (some ⟨b,o,sp⟩)) (.int .i64 3)=some (.pointer (some ⟨b,o+3,none⟩)):=aH dQ fp b o sp 3 (by decide)
theorem Ap (l:List Value):cD CC 128 (.agg ⟨l⟩) (.int .i64 3)=l[3]? :=bD dQ fp (by kernel_rfl) l 3 (by decide)
theorem BE (b o:Nat) (sp:Option Nat):aD CC 128 (.pointer (some ⟨b,o,sp⟩)) (.int .i64 4)=some (.pointer (some ⟨b,o+4,none⟩)):=aH dQ fp b o sp 4 (by decide)
theorem Ao (l:List Value):cD CC 128 (.agg ⟨l⟩) (.int .i64 4)=l[4]? :=bD dQ fp (by kernel_rfl) l 4 (by decide)
theorem BD (b o:Nat) (sp:Option Nat):aD CC 128 (.pointer (some ⟨b,o,sp⟩)) (.int .i64 5)=some (.pointer (some ⟨b,o+5,none⟩)):=aH dQ fp b o sp 5 (by decide)
theorem An (l:List Value):cD CC 128 (.agg ⟨l⟩) (.int .i64 5)=l[5]? :=bD dQ fp (by kernel_rfl) l 5 (by decide)
theorem Pw:ak CC 131 0=some (0,2):=ao xX
theorem Pv:ak CC 131 1=some (2,36):=ao xW
theorem Ez (b o:Nat) (sp:Option Nat) (len cap i:Nat) (hi:i<len):aD CC 135 (.slice (some ⟨b,o,sp⟩) len cap) (.int .i64 i)=some (.pointer (some ⟨b,o+i*2,none⟩)):=dM uU mZ b o sp len cap i hi
theorem Pu:ak CC 138 0=some (0,1):=ao xV
theorem Pt:ak CC 138 1=some (1,1):=ao xU
theorem WP (p:List (Nat×Value)):cJ CC 138 p=ae (bu (ak CC 138) p [.slice none 0 0, .int .i64 0]) fun l=>some (br l):=bL (by kernel_rfl) Aj p
theorem Ps:ak CC 170 0=some (0,3):=ao xT
theorem Pr:ak CC 170 1=some (3,1):=ao xS
theorem Pq:ak CC 170 2=some (4,1):=ao xR
theorem Pp:ak CC 170 3=some (5,1):=ao xQ
theorem Po:ak CC 170 4=some (6,1):=ao xP
theorem WO (p:List (Nat×Value)):cJ CC 170 p=ae (bu (ak CC 170) p [.int .i64 0, .slice none 0 0, .slice none 0 0, .slice none 0 0, .map none, .int .i64 0, .int .i64 0]) fun l=>some (br l):=bL (by kernel_rfl) FP p
theorem WN (p:List (Nat×Value)):cJ CC 182 p=ae (bu (eX 1) p [.nilFunc, .nilFunc, .nilFunc, .nilFunc, .nilFunc, .nilFunc, .nilFunc, .nilFunc, .nilFunc, .nilFunc, .nilFunc, .nilFunc, .nilFunc, .nilFunc, .nilFunc, .nilFunc]) fun l=>some (br l):=j9 dP dh Ai p
theorem RI (b o:Nat) (sp:Option Nat):aD CC 182 (.pointer (some ⟨b,o,sp⟩)) (.int .i64 0)=some (.pointer (some ⟨b,o+0,none⟩)):=aH dP dh b o sp 0 (by decide)
theorem Oy (l:List Value):cD CC 182 (.agg ⟨l⟩) (.int .i64 0)=l[0]? :=bD dP dh (by kernel_rfl) l 0 (by decide)
theorem RH (b o:Nat) (sp:Option Nat):aD CC 182 (.pointer (some ⟨b,o,sp⟩)) (.int .i64 1)=some (.pointer (some ⟨b,o+1,none⟩)):=aH dP dh b o sp 1 (by decide)
theorem Ox (l:List Value):cD CC 182 (.agg ⟨l⟩) (.int .i64 1)=l[1]? :=bD dP dh (by kernel_rfl) l 1 (by decide)
theorem RG (b o:Nat) (sp:Option Nat):aD CC 182 (.pointer (some ⟨b,o,sp⟩)) (.int .i64 2)=some (.pointer (some ⟨b,o+2,none⟩)):=aH dP dh b o sp 2 (by decide)
theorem Ow (l:List Value):cD CC 182 (.agg ⟨l⟩) (.int .i64 2)=l[2]? :=bD dP dh (by kernel_rfl) l 2 (by decide)
theorem RF (b o:Nat) (sp:Option Nat):aD CC 182 (.pointer (some ⟨b,o,sp⟩)) (.int .i64 3)=some (.pointer (some ⟨b,o+3,none⟩)):=aH dP dh b o sp 3 (by decide)
theorem Ov (l:List Value):cD CC 182 (.agg ⟨l⟩) (.int .i64 3)=l[3]? :=bD dP dh (by kernel_rfl) l 3 (by decide)
theorem RE (b o:Nat) (sp:Option Nat):aD CC 182 (.pointer (some ⟨b,o,sp⟩)) (.int .i64 4)=some (.pointer (some ⟨b,o+4,none⟩)):=aH dP dh b o sp 4 (by decide)
theorem Ou (l:List Value):cD CC 182 (.agg ⟨l⟩) (.int .i64 4)=l[4]? :=bD dP dh (by kernel_rfl) l 4 (by decide)
theorem RD (b o:Nat) (sp:Option Nat):aD CC 182 (.pointer (some ⟨b,o,sp⟩)) (.int .i64 5)=some (.pointer (some ⟨b,o+5,none⟩)):=aH dP dh b o sp 5 (by decide)
theorem Ot (l:List Value):cD CC 182 (.agg ⟨l⟩) (.int .i64 5)=l[5]? :=bD dP dh (by kernel_rfl) l 5 (by decide)
theorem RC (b o:Nat) (sp:Option Nat):aD CC 182 (.pointer (some ⟨b,o,sp⟩)) (.int .i64 6)=some (.pointer (some ⟨b,o+6,none⟩)):=aH dP dh b o sp 6 (by decide)
theorem Or (l:List Value):cD CC 182 (.agg ⟨l⟩) (.int .i64 6)=l[6]? :=bD dP dh (by kernel_rfl) l 6 (by decide)
theorem RA (b o:Nat) (sp:Option Nat):aD CC 182 (.pointer (some ⟨b,o,sp⟩)) (.int .i64 7)=some (.pointer (some ⟨b,o+7,none⟩)):=aH dP dh b o sp 7 (by decide)
theorem Oq (l:List Value):cD CC 182 (.agg ⟨l⟩) (.int .i64 7)=l[7]? :=bD dP dh (by kernel_rfl) l 7 (by decide)
theorem Gj:ak CC 221 0=some (0,1):=ao xO
theorem Gi:ak CC 221 1=some (1,1):=ao xN
theorem LK (p:List (Nat×Value)):cJ CC 221 p=ae (bu (ak CC 221) p [.int .i64 0, .int .i64 0]) fun l=>some (br l):=bL (by kernel_rfl) Ah p
theorem Pn:ak CC 228 0=some (0,3):=ao xM
theorem Pm:ak CC 228 1=some (3,1):=ao xL
theorem Pl:ak CC 228 2=some (4,1):=ao xK
theorem WM (p:List (Nat×Value)):cJ CC 228 p=ae (bu (ak CC 228) p [.slice none 0 0, .slice none 0 0, .slice none 0 0, .slice none 0 0, .slice none 0 0]) fun l=>some (br l):=bL (by kernel_rfl) FM p
theorem Pk:ak CC 234 0=some (0,1):=ao DO
theorem WL (p:List (Nat×Value)):cJ CC 234 p=ae (bu (ak CC 234) p [.int .i64 0]) fun l=>some (br l):=bL (by kernel_rfl) Af p
theorem Yp (v:Value):fM CC 234 v=some (.val (.iface 234 v)):=pi (by kernel_rfl) v
theorem Pj:ak CC 257 0=some (0,35):=ao xJ
theorem Pi:ak CC 257 1=some (35,1):=ao DN
theorem Ph:ak CC 257 2=some (36,1):=ao xI
theorem Pg:ak CC 257 3=some (37,1):=ao DM
theorem Pf:ak CC 257 4=some (38,1):=ao xH
theorem Pe:ak CC 257 5=some (39,1):=ao xG
theorem Pd:ak CC 257 6=some (40,1):=ao xF
theorem Pc:ak CC 257 7=some (41,1):=ao DL
theorem Pb:ak CC 257 8=some (42,1):=ao xE
theorem Pa:ak CC 257 9=some (43,1):=ao xD
theorem O9:ak CC 285 0=some (0,1):=ao DK
theorem O8:ak CC 285 1=some (1,1):=ao DJ
theorem WK (p:List (Nat×Value)):cJ CC 285 p=ae (bu (ak CC 285) p [.int .i64 0, .int .i64 0]) fun l=>some (br l):=bL (by kernel_rfl) FI p
theorem O7:ak CC 289 0=some (0,5):=ao xC
theorem LJ (p:List (Nat×Value)):cJ CC 289 p=ae (bu (ak CC 289) p [.int .i64 0, .bool false, .int .i64 0, .int .i64 0, .slice none 0 0]) fun l=>some (br l):=bL (by kernel_rfl) FH p
theorem WJ (p:List (Nat×Value)):cJ CC 290 p=ae (bu (eX 1) p [.nilFunc, .nilFunc]) fun l=>some (br l):=j9 oL lG FG p
theorem Rz (b o:Nat) (sp:Option Nat):aD CC 290 (.pointer (some ⟨b,o,sp⟩)) (.int .i64 0)=some (.pointer (some ⟨b,o+0,none⟩)):=aH oL lG b o sp 0 (by decide)
theorem Oo (l:List Value):cD CC 290 (.agg ⟨l⟩) (.int .i64 0)=l[0]? :=bD oL lG (by kernel_rfl) l 0 (by decide)
theorem Ry (b o:Nat) (sp:Option Nat):aD CC 290 (.pointer (some ⟨b,o,sp⟩)) (.int .i64 1)=some (.pointer (some ⟨b,o+1,none⟩)):=aH oL lG b o sp 1 (by decide)
theorem On (l:List Value):cD CC 290 (.agg ⟨l⟩) (.int .i64 1)=l[1]? :=bD oL lG (by kernel_rfl) l 1 (by decide)
theorem O6:ak CC 314 0=some (0,1):=ao xB
theorem O5:ak CC 314 1=some (1,1):=ao xz
theorem WI (p:List (Nat×Value)):cJ CC 314 p=ae (bu (ak CC 314) p [.int .i64 0, .int .i64 0]) fun l=>some (br l):=bL (by kernel_rfl) Ad p
theorem Ri (b o:Nat) (sp:Option Nat) (len cap i:Nat) (hi:i<len):aD CC 315 (.slice (some ⟨b,o,sp⟩) len cap) (.int .i64 i)=some (.pointer (some ⟨b,o+i*2,none⟩)):=dM zn qN b o sp len cap i hi
theorem JB (b o:Nat) (sp:Option Nat) (len cap i:Nat) (hi:i<len):aD CC 317 (.slice (some ⟨b,o,sp⟩) len cap) (.int .i64 i)=some (.pointer (some ⟨b,o+i*2,none⟩)):=dM uT mW b o sp len cap i hi
theorem O4:ak CC 319 0=some (0,1):=ao xy
theorem O3:ak CC 319 1=some (1,1):=ao xx
theorem WH (p:List (Nat×Value)):cJ CC 319 p=ae (bu (ak CC 319) p [.slice none 0 0, .bool false]) fun l=>some (br l):=bL (by kernel_rfl) Ab p
theorem O2:ak CC 322 0=some (0,1):=ao DI
theorem WG (p:List (Nat×Value)):cJ CC 322 p=ae (bu (ak CC 322) p [.int .i64 0]) fun l=>some (br l):=bL (by kernel_rfl) Aa p
theorem Yo (v:Value):fM CC 322 v=some (.val (.iface 322 v)):=pi (by kernel_rfl) v
theorem Gh:ak CC 333 0=some (0,1):=ao xu
theorem Gg:ak CC 333 1=some (1,1):=ao xr
theorem LI (p:List (Nat×Value)):cJ CC 333 p=ae (bu (ak CC 333) p [.int .i64 0, .int .i64 0]) fun l=>some (br l):=bL (by kernel_rfl) mQ p
theorem Yn (v:Value):fM CC 333 v=some (.val (.iface 333 v)):=pi (by kernel_rfl) v
theorem O1:ak CC 381 0=some (0,1):=ao xq
theorem O0:ak CC 381 1=some (1,1):=ao xp
theorem WF (p:List (Nat×Value)):cJ CC 381 p=ae (bu (ak CC 381) p [.int .i64 0, .int .i64 0]) fun l=>some (br l):=bL (by kernel_rfl) uL p
theorem WE (p:List (Nat×Value)):cJ CC 383 p=ae (bu (eX 1) p [.nilFunc, .nilFunc]) fun l=>some (br l):=j9 sF mV FD p
theorem Rx (b o:Nat) (sp:Option Nat):aD CC 383 (.pointer (some ⟨b,o,sp⟩)) (.int .i64 0)=some (.pointer (some ⟨b,o+0,none⟩)):=aH sF mV b o sp 0 (by decide)
theorem Om (l:List Value):cD CC 383 (.agg ⟨l⟩) (.int .i64 0)=l[0]? :=bD sF mV (by kernel_rfl) l 0 (by decide)
theorem Rw (b o:Nat) (sp:Option Nat):aD CC 383 (.pointer (some ⟨b,o,sp⟩)) (.int .i64 1)=some (.pointer (some ⟨b,o+1,none⟩)):=aH sF mV b o sp 1 (by decide)
theorem Ol (l:List Value):cD CC 383 (.agg ⟨l⟩) (.int .i64 1)=l[1]? :=bD sF mV (by kernel_rfl) l 1 (by decide)
theorem OZ:ak CC 387 0=some (0,1):=ao DH
theorem OY:ak CC 387 1=some (1,1):=ao DG
theorem WD (p:List (Nat×Value)):cJ CC 387 p=ae (bu (ak CC 387) p [.int .i64 0, .int .i64 0]) fun l=>some (br l):=bL (by kernel_rfl) FC p
theorem WC (p:List (Nat×Value)):cJ CC 432 p=ae (bu (eX 1) p [.nilFunc, .nilFunc]) fun l=>some (br l):=j9 sE mY FB p
theorem Ru (b o:Nat) (sp:Option Nat):aD CC 432 (.pointer (some ⟨b,o,sp⟩)) (.int .i64 0)=some (.pointer (some ⟨b,o+0,none⟩)):=aH sE mY b o sp 0 (by decide)
theorem Oj (l:List Value):cD CC 432 (.agg ⟨l⟩) (.int .i64 0)=l[0]? :=bD sE mY (by kernel_rfl) l 0 (by decide)
theorem Rs (b o:Nat) (sp:Option Nat):aD CC 432 (.pointer (some ⟨b,o,sp⟩)) (.int .i64 1)=some (.pointer (some ⟨b,o+1,none⟩)):=aH sE mY b o sp 1 (by decide)
theorem Oi (l:List Value):cD CC 432 (.agg ⟨l⟩) (.int .i64 1)=l[1]? :=bD sE mY (by kernel_rfl) l 1 (by decide)
end Go.Am
