/- Paths of slots, written out. PRINTED. -/
import Derived.Test.YtekoolanpphbfaaA20
set_option linter.unusedSimpArgs false
set_option linter.unusedVariables false
set_option linter.unnecessarySimpa false
namespace Go.A
theorem path0 : path 0 = [] := rfl
theorem path1 : path 1 = [false] := rfl
theorem path2 : path 2 = [true] := rfl
theorem path3 : path 3 = [false, false] := rfl
theorem path4 : path 4 = [true, false] := rfl
theorem path5 : path 5 = [false, true] := rfl
theorem path6 : path 6 = [true, true] := rfl
theorem path7 : path 7 = [false, false, false] := rfl
theorem path8 : path 8 = [true, false, false] := rfl
theorem path9 : path 9 = [false, true, false] := rfl
theorem path10 : path 10 = [true, true, false] := rfl
theorem path11 : path 11 = [false, false, true] := rfl
theorem path12 : path 12 = [true, false, true] := rfl
theorem path13 : path 13 = [false, true, true] := rfl
theorem path14 : path 14 = [true, true, true] := rfl
theorem path15 : path 15 = [false, false, false, false] := rfl
theorem path16 : path 16 = [true, false, false, false] := rfl
theorem path17 : path 17 = [false, true, false, false] := rfl
theorem path18 : path 18 = [true, true, false, false] := rfl
theorem path19 : path 19 = [false, false, true, false] := rfl
theorem path20 : path 20 = [true, false, true, false] := rfl
theorem path21 : path 21 = [false, true, true, false] := rfl
theorem path22 : path 22 = [true, true, true, false] := rfl
theorem path23 : path 23 = [false, false, false, true] := rfl
theorem path24 : path 24 = [true, false, false, true] := rfl
theorem path25 : path 25 = [false, true, false, true] := rfl
theorem path26 : path 26 = [true, true, false, true] := rfl
theorem path27 : path 27 = [false, false, true, true] := rfl
theorem path28 : path 28 = [true, false, true, true] := rfl
theorem path29 : path 29 = [false, true, true, true] := rfl
theorem path30 : path 30 = [true, true, true, true] := rfl
theorem path31 : path 31 = [false, false, false, false, false] := rfl
theorem path32 : path 32 = [true, false, false, false, false] := rfl
theorem path33 : path 33 = [false, true, false, false, false] := rfl
theorem path34 : path 34 = [true, true, false, false, false] := rfl
theorem path35 : path 35 = [false, false, true, false, false] := rfl
theorem path36 : path 36 = [true, false, true, false, false] := rfl
theorem path37 : path 37 = [false, true, true, false, false] := rfl
theorem path38 : path 38 = [true, true, true, false, false] := rfl
theorem path39 : path 39 = [false, false, false, true, false] := rfl
theorem path40 : path 40 = [true, false, false, true, false] := rfl
theorem path41 : path 41 = [false, true, false, true, false] := rfl
theorem path42 : path 42 = [true, true, false, true, false] := rfl
theorem path43 : path 43 = [false, false, true, true, false] := rfl
theorem path44 : path 44 = [true, false, true, true, false] := rfl
theorem path45 : path 45 = [false, true, true, true, false] := rfl
theorem path46 : path 46 = [true, true, true, true, false] := rfl
theorem path47 : path 47 = [false, false, false, false, true] := rfl
theorem path48 : path 48 = [true, false, false, false, true] := rfl
theorem path49 : path 49 = [false, true, false, false, true] := rfl
theorem path50 : path 50 = [true, true, false, false, true] := rfl
theorem path51 : path 51 = [false, false, true, false, true] := rfl
theorem path52 : path 52 = [true, false, true, false, true] := rfl
theorem path53 : path 53 = [false, true, true, false, true] := rfl
theorem path54 : path 54 = [true, true, true, false, true] := rfl
theorem path55 : path 55 = [false, false, false, true, true] := rfl
theorem path56 : path 56 = [true, false, false, true, true] := rfl
theorem path57 : path 57 = [false, true, false, true, true] := rfl
theorem path58 : path 58 = [true, true, false, true, true] := rfl
theorem path59 : path 59 = [false, false, true, true, true] := rfl
theorem path60 : path 60 = [true, false, true, true, true] := rfl
theorem path61 : path 61 = [false, true, true, true, true] := rfl
theorem path62 : path 62 = [true, true, true, true, true] := rfl
theorem path63 : path 63 = [false, false, false, false, false, false] := rfl
theorem path64 : path 64 = [true, false, false, false, false, false] := rfl
theorem path65 : path 65 = [false, true, false, false, false, false] := rfl
theorem path66 : path 66 = [true, true, false, false, false, false] := rfl
theorem path67 : path 67 = [false, false, true, false, false, false] := rfl
theorem path68 : path 68 = [true, false, true, false, false, false] := rfl
theorem path69 : path 69 = [false, true, true, false, false, false] := rfl
theorem path70 : path 70 = [true, true, true, false, false, false] := rfl
theorem path71 : path 71 = [false, false, false, true, false, false] := rfl
theorem path72 : path 72 = [true, false, false, true, false, false] := rfl
theorem path73 : path 73 = [false, true, false, true, false, false] := rfl
theorem path74 : path 74 = [true, true, false, true, false, false] := rfl
theorem path75 : path 75 = [false, false, true, true, false, false] := rfl
theorem path76 : path 76 = [true, false, true, true, false, false] := rfl
theorem path77 : path 77 = [false, true, true, true, false, false] := rfl
theorem path78 : path 78 = [true, true, true, true, false, false] := rfl
theorem path79 : path 79 = [false, false, false, false, true, false] := rfl
theorem path80 : path 80 = [true, false, false, false, true, false] := rfl
theorem path81 : path 81 = [false, true, false, false, true, false] := rfl
theorem path82 : path 82 = [true, true, false, false, true, false] := rfl
theorem path83 : path 83 = [false, false, true, false, true, false] := rfl
theorem path84 : path 84 = [true, false, true, false, true, false] := rfl
theorem path85 : path 85 = [false, true, true, false, true, false] := rfl
theorem path86 : path 86 = [true, true, true, false, true, false] := rfl
theorem path87 : path 87 = [false, false, false, true, true, false] := rfl
theorem path88 : path 88 = [true, false, false, true, true, false] := rfl
theorem path89 : path 89 = [false, true, false, true, true, false] := rfl
theorem path90 : path 90 = [true, true, false, true, true, false] := rfl
theorem path91 : path 91 = [false, false, true, true, true, false] := rfl
theorem path92 : path 92 = [true, false, true, true, true, false] := rfl
theorem path93 : path 93 = [false, true, true, true, true, false] := rfl
theorem path94 : path 94 = [true, true, true, true, true, false] := rfl
theorem path95 : path 95 = [false, false, false, false, false, true] := rfl
theorem path96 : path 96 = [true, false, false, false, false, true] := rfl
theorem path97 : path 97 = [false, true, false, false, false, true] := rfl
theorem path98 : path 98 = [true, true, false, false, false, true] := rfl
theorem path99 : path 99 = [false, false, true, false, false, true] := rfl
theorem path100 : path 100 = [true, false, true, false, false, true] := rfl
theorem path101 : path 101 = [false, true, true, false, false, true] := rfl
theorem path102 : path 102 = [true, true, true, false, false, true] := rfl
theorem path103 : path 103 = [false, false, false, true, false, true] := rfl
theorem path104 : path 104 = [true, false, false, true, false, true] := rfl
theorem path105 : path 105 = [false, true, false, true, false, true] := rfl
theorem path106 : path 106 = [true, true, false, true, false, true] := rfl
theorem path107 : path 107 = [false, false, true, true, false, true] := rfl
theorem path108 : path 108 = [true, false, true, true, false, true] := rfl
theorem path109 : path 109 = [false, true, true, true, false, true] := rfl
theorem path110 : path 110 = [true, true, true, true, false, true] := rfl
theorem path111 : path 111 = [false, false, false, false, true, true] := rfl
theorem path112 : path 112 = [true, false, false, false, true, true] := rfl
theorem path113 : path 113 = [false, true, false, false, true, true] := rfl
theorem path114 : path 114 = [true, true, false, false, true, true] := rfl
theorem path115 : path 115 = [false, false, true, false, true, true] := rfl
theorem path116 : path 116 = [true, false, true, false, true, true] := rfl
theorem path117 : path 117 = [false, true, true, false, true, true] := rfl
theorem path118 : path 118 = [true, true, true, false, true, true] := rfl
theorem path119 : path 119 = [false, false, false, true, true, true] := rfl
theorem path120 : path 120 = [true, false, false, true, true, true] := rfl
theorem path121 : path 121 = [false, true, false, true, true, true] := rfl
theorem path122 : path 122 = [true, true, false, true, true, true] := rfl
theorem path123 : path 123 = [false, false, true, true, true, true] := rfl
theorem path124 : path 124 = [true, false, true, true, true, true] := rfl
theorem path125 : path 125 = [false, true, true, true, true, true] := rfl
theorem path126 : path 126 = [true, true, true, true, true, true] := rfl
theorem path127 : path 127 = [false, false, false, false, false, false, false] := rfl
theorem path128 : path 128 = [true, false, false, false, false, false, false] := rfl
theorem path129 : path 129 = [false, true, false, false, false, false, false] := rfl
theorem path130 : path 130 = [true, true, false, false, false, false, false] := rfl
theorem path131 : path 131 = [false, false, true, false, false, false, false] := rfl
theorem path132 : path 132 = [true, false, true, false, false, false, false] := rfl
theorem path133 : path 133 = [false, true, true, false, false, false, false] := rfl
theorem path134 : path 134 = [true, true, true, false, false, false, false] := rfl
theorem path135 : path 135 = [false, false, false, true, false, false, false] := rfl
theorem path136 : path 136 = [true, false, false, true, false, false, false] := rfl
theorem path137 : path 137 = [false, true, false, true, false, false, false] := rfl
theorem path138 : path 138 = [true, true, false, true, false, false, false] := rfl
theorem path139 : path 139 = [false, false, true, true, false, false, false] := rfl
theorem path140 : path 140 = [true, false, true, true, false, false, false] := rfl
theorem path141 : path 141 = [false, true, true, true, false, false, false] := rfl
theorem path142 : path 142 = [true, true, true, true, false, false, false] := rfl
theorem path143 : path 143 = [false, false, false, false, true, false, false] := rfl
theorem path144 : path 144 = [true, false, false, false, true, false, false] := rfl
theorem path145 : path 145 = [false, true, false, false, true, false, false] := rfl
theorem path146 : path 146 = [true, true, false, false, true, false, false] := rfl
theorem path147 : path 147 = [false, false, true, false, true, false, false] := rfl
theorem path148 : path 148 = [true, false, true, false, true, false, false] := rfl
theorem path149 : path 149 = [false, true, true, false, true, false, false] := rfl
theorem path150 : path 150 = [true, true, true, false, true, false, false] := rfl
theorem path151 : path 151 = [false, false, false, true, true, false, false] := rfl
theorem path152 : path 152 = [true, false, false, true, true, false, false] := rfl
theorem path153 : path 153 = [false, true, false, true, true, false, false] := rfl
theorem path154 : path 154 = [true, true, false, true, true, false, false] := rfl
theorem path155 : path 155 = [false, false, true, true, true, false, false] := rfl
theorem path156 : path 156 = [true, false, true, true, true, false, false] := rfl
theorem path157 : path 157 = [false, true, true, true, true, false, false] := rfl
theorem path158 : path 158 = [true, true, true, true, true, false, false] := rfl
theorem path159 : path 159 = [false, false, false, false, false, true, false] := rfl
theorem path160 : path 160 = [true, false, false, false, false, true, false] := rfl
theorem path161 : path 161 = [false, true, false, false, false, true, false] := rfl
theorem path162 : path 162 = [true, true, false, false, false, true, false] := rfl
theorem path163 : path 163 = [false, false, true, false, false, true, false] := rfl
theorem path164 : path 164 = [true, false, true, false, false, true, false] := rfl
theorem path165 : path 165 = [false, true, true, false, false, true, false] := rfl
theorem path166 : path 166 = [true, true, true, false, false, true, false] := rfl
theorem path167 : path 167 = [false, false, false, true, false, true, false] := rfl
theorem path168 : path 168 = [true, false, false, true, false, true, false] := rfl
theorem path169 : path 169 = [false, true, false, true, false, true, false] := rfl
theorem path170 : path 170 = [true, true, false, true, false, true, false] := rfl
theorem path171 : path 171 = [false, false, true, true, false, true, false] := rfl
theorem path172 : path 172 = [true, false, true, true, false, true, false] := rfl
theorem path173 : path 173 = [false, true, true, true, false, true, false] := rfl
theorem path174 : path 174 = [true, true, true, true, false, true, false] := rfl
theorem path175 : path 175 = [false, false, false, false, true, true, false] := rfl
theorem path176 : path 176 = [true, false, false, false, true, true, false] := rfl
theorem path177 : path 177 = [false, true, false, false, true, true, false] := rfl
theorem path178 : path 178 = [true, true, false, false, true, true, false] := rfl
theorem path179 : path 179 = [false, false, true, false, true, true, false] := rfl
theorem path180 : path 180 = [true, false, true, false, true, true, false] := rfl
theorem path181 : path 181 = [false, true, true, false, true, true, false] := rfl
theorem path182 : path 182 = [true, true, true, false, true, true, false] := rfl
theorem path183 : path 183 = [false, false, false, true, true, true, false] := rfl
theorem path184 : path 184 = [true, false, false, true, true, true, false] := rfl
theorem path185 : path 185 = [false, true, false, true, true, true, false] := rfl
theorem path186 : path 186 = [true, true, false, true, true, true, false] := rfl
theorem path187 : path 187 = [false, false, true, true, true, true, false] := rfl
theorem path188 : path 188 = [true, false, true, true, true, true, false] := rfl
theorem path189 : path 189 = [false, true, true, true, true, true, false] := rfl
theorem path190 : path 190 = [true, true, true, true, true, true, false] := rfl
theorem path191 : path 191 = [false, false, false, false, false, false, true] := rfl
theorem path192 : path 192 = [true, false, false, false, false, false, true] := rfl
theorem path193 : path 193 = [false, true, false, false, false, false, true] := rfl
theorem path194 : path 194 = [true, true, false, false, false, false, true] := rfl
theorem path195 : path 195 = [false, false, true, false, false, false, true] := rfl
theorem path196 : path 196 = [true, false, true, false, false, false, true] := rfl
theorem path197 : path 197 = [false, true, true, false, false, false, true] := rfl
theorem path198 : path 198 = [true, true, true, false, false, false, true] := rfl
theorem path199 : path 199 = [false, false, false, true, false, false, true] := rfl
theorem path200 : path 200 = [true, false, false, true, false, false, true] := rfl
theorem path201 : path 201 = [false, true, false, true, false, false, true] := rfl
theorem path202 : path 202 = [true, true, false, true, false, false, true] := rfl
theorem path203 : path 203 = [false, false, true, true, false, false, true] := rfl
theorem path204 : path 204 = [true, false, true, true, false, false, true] := rfl
theorem path205 : path 205 = [false, true, true, true, false, false, true] := rfl
theorem path206 : path 206 = [true, true, true, true, false, false, true] := rfl
theorem path207 : path 207 = [false, false, false, false, true, false, true] := rfl
theorem path208 : path 208 = [true, false, false, false, true, false, true] := rfl
theorem path209 : path 209 = [false, true, false, false, true, false, true] := rfl
theorem path210 : path 210 = [true, true, false, false, true, false, true] := rfl
theorem path211 : path 211 = [false, false, true, false, true, false, true] := rfl
theorem path212 : path 212 = [true, false, true, false, true, false, true] := rfl
theorem path213 : path 213 = [false, true, true, false, true, false, true] := rfl
theorem path214 : path 214 = [true, true, true, false, true, false, true] := rfl
theorem path215 : path 215 = [false, false, false, true, true, false, true] := rfl
theorem path216 : path 216 = [true, false, false, true, true, false, true] := rfl
theorem path217 : path 217 = [false, true, false, true, true, false, true] := rfl
theorem path218 : path 218 = [true, true, false, true, true, false, true] := rfl
theorem path219 : path 219 = [false, false, true, true, true, false, true] := rfl
theorem path220 : path 220 = [true, false, true, true, true, false, true] := rfl
theorem path221 : path 221 = [false, true, true, true, true, false, true] := rfl
theorem path222 : path 222 = [true, true, true, true, true, false, true] := rfl
theorem path223 : path 223 = [false, false, false, false, false, true, true] := rfl
theorem path224 : path 224 = [true, false, false, false, false, true, true] := rfl
theorem path225 : path 225 = [false, true, false, false, false, true, true] := rfl
theorem path226 : path 226 = [true, true, false, false, false, true, true] := rfl
theorem path227 : path 227 = [false, false, true, false, false, true, true] := rfl
theorem path228 : path 228 = [true, false, true, false, false, true, true] := rfl
theorem path229 : path 229 = [false, true, true, false, false, true, true] := rfl
theorem path230 : path 230 = [true, true, true, false, false, true, true] := rfl
theorem path231 : path 231 = [false, false, false, true, false, true, true] := rfl
theorem path232 : path 232 = [true, false, false, true, false, true, true] := rfl
theorem path233 : path 233 = [false, true, false, true, false, true, true] := rfl
theorem path234 : path 234 = [true, true, false, true, false, true, true] := rfl
theorem path235 : path 235 = [false, false, true, true, false, true, true] := rfl
theorem path236 : path 236 = [true, false, true, true, false, true, true] := rfl
theorem path237 : path 237 = [false, true, true, true, false, true, true] := rfl
theorem path238 : path 238 = [true, true, true, true, false, true, true] := rfl
theorem path239 : path 239 = [false, false, false, false, true, true, true] := rfl
theorem path240 : path 240 = [true, false, false, false, true, true, true] := rfl
theorem path241 : path 241 = [false, true, false, false, true, true, true] := rfl
theorem path242 : path 242 = [true, true, false, false, true, true, true] := rfl
theorem path243 : path 243 = [false, false, true, false, true, true, true] := rfl
theorem path244 : path 244 = [true, false, true, false, true, true, true] := rfl
theorem path245 : path 245 = [false, true, true, false, true, true, true] := rfl
theorem path246 : path 246 = [true, true, true, false, true, true, true] := rfl
theorem path247 : path 247 = [false, false, false, true, true, true, true] := rfl
theorem path248 : path 248 = [true, false, false, true, true, true, true] := rfl
theorem path249 : path 249 = [false, true, false, true, true, true, true] := rfl
theorem path250 : path 250 = [true, true, false, true, true, true, true] := rfl
theorem path251 : path 251 = [false, false, true, true, true, true, true] := rfl
theorem path252 : path 252 = [true, false, true, true, true, true, true] := rfl
theorem path253 : path 253 = [false, true, true, true, true, true, true] := rfl
theorem path254 : path 254 = [true, true, true, true, true, true, true] := rfl
theorem path255 : path 255 = [false, false, false, false, false, false, false, false] := rfl
theorem path256 : path 256 = [true, false, false, false, false, false, false, false] := rfl
theorem path257 : path 257 = [false, true, false, false, false, false, false, false] := rfl
theorem path258 : path 258 = [true, true, false, false, false, false, false, false] := rfl
theorem path259 : path 259 = [false, false, true, false, false, false, false, false] := rfl
theorem path260 : path 260 = [true, false, true, false, false, false, false, false] := rfl
theorem path261 : path 261 = [false, true, true, false, false, false, false, false] := rfl
theorem path262 : path 262 = [true, true, true, false, false, false, false, false] := rfl
theorem path263 : path 263 = [false, false, false, true, false, false, false, false] := rfl
theorem path264 : path 264 = [true, false, false, true, false, false, false, false] := rfl
theorem path265 : path 265 = [false, true, false, true, false, false, false, false] := rfl
theorem path266 : path 266 = [true, true, false, true, false, false, false, false] := rfl
theorem path267 : path 267 = [false, false, true, true, false, false, false, false] := rfl
theorem path268 : path 268 = [true, false, true, true, false, false, false, false] := rfl
theorem path269 : path 269 = [false, true, true, true, false, false, false, false] := rfl
theorem path270 : path 270 = [true, true, true, true, false, false, false, false] := rfl
theorem path271 : path 271 = [false, false, false, false, true, false, false, false] := rfl
theorem path272 : path 272 = [true, false, false, false, true, false, false, false] := rfl
theorem path273 : path 273 = [false, true, false, false, true, false, false, false] := rfl
theorem path274 : path 274 = [true, true, false, false, true, false, false, false] := rfl
theorem path275 : path 275 = [false, false, true, false, true, false, false, false] := rfl
theorem path276 : path 276 = [true, false, true, false, true, false, false, false] := rfl
theorem path277 : path 277 = [false, true, true, false, true, false, false, false] := rfl
theorem path278 : path 278 = [true, true, true, false, true, false, false, false] := rfl
theorem path279 : path 279 = [false, false, false, true, true, false, false, false] := rfl
theorem path280 : path 280 = [true, false, false, true, true, false, false, false] := rfl
theorem path281 : path 281 = [false, true, false, true, true, false, false, false] := rfl
theorem path282 : path 282 = [true, true, false, true, true, false, false, false] := rfl
theorem path283 : path 283 = [false, false, true, true, true, false, false, false] := rfl
theorem path284 : path 284 = [true, false, true, true, true, false, false, false] := rfl
theorem path285 : path 285 = [false, true, true, true, true, false, false, false] := rfl
theorem path286 : path 286 = [true, true, true, true, true, false, false, false] := rfl
theorem path287 : path 287 = [false, false, false, false, false, true, false, false] := rfl
theorem path288 : path 288 = [true, false, false, false, false, true, false, false] := rfl
theorem path289 : path 289 = [false, true, false, false, false, true, false, false] := rfl
theorem path290 : path 290 = [true, true, false, false, false, true, false, false] := rfl
theorem path291 : path 291 = [false, false, true, false, false, true, false, false] := rfl
theorem path292 : path 292 = [true, false, true, false, false, true, false, false] := rfl
theorem path293 : path 293 = [false, true, true, false, false, true, false, false] := rfl
theorem path294 : path 294 = [true, true, true, false, false, true, false, false] := rfl
theorem path295 : path 295 = [false, false, false, true, false, true, false, false] := rfl
theorem path296 : path 296 = [true, false, false, true, false, true, false, false] := rfl
theorem path297 : path 297 = [false, true, false, true, false, true, false, false] := rfl
theorem path298 : path 298 = [true, true, false, true, false, true, false, false] := rfl
theorem path299 : path 299 = [false, false, true, true, false, true, false, false] := rfl
theorem path300 : path 300 = [true, false, true, true, false, true, false, false] := rfl
theorem path301 : path 301 = [false, true, true, true, false, true, false, false] := rfl
theorem path302 : path 302 = [true, true, true, true, false, true, false, false] := rfl
theorem path303 : path 303 = [false, false, false, false, true, true, false, false] := rfl
theorem path304 : path 304 = [true, false, false, false, true, true, false, false] := rfl
theorem path305 : path 305 = [false, true, false, false, true, true, false, false] := rfl
theorem path306 : path 306 = [true, true, false, false, true, true, false, false] := rfl
theorem path307 : path 307 = [false, false, true, false, true, true, false, false] := rfl
theorem path308 : path 308 = [true, false, true, false, true, true, false, false] := rfl
theorem path309 : path 309 = [false, true, true, false, true, true, false, false] := rfl
theorem path310 : path 310 = [true, true, true, false, true, true, false, false] := rfl
theorem path311 : path 311 = [false, false, false, true, true, true, false, false] := rfl
theorem path312 : path 312 = [true, false, false, true, true, true, false, false] := rfl
theorem path313 : path 313 = [false, true, false, true, true, true, false, false] := rfl
theorem path314 : path 314 = [true, true, false, true, true, true, false, false] := rfl
theorem path315 : path 315 = [false, false, true, true, true, true, false, false] := rfl
theorem path316 : path 316 = [true, false, true, true, true, true, false, false] := rfl
theorem path317 : path 317 = [false, true, true, true, true, true, false, false] := rfl
theorem path318 : path 318 = [true, true, true, true, true, true, false, false] := rfl
theorem path319 : path 319 = [false, false, false, false, false, false, true, false] := rfl
attribute [simp] path0 path1 path2 path3 path4 path5 path6 path7 path8 path9 path10 path11 path12 path13 path14 path15 path16 path17 path18 path19 path20 path21 path22 path23 path24 path25 path26 path27 path28 path29 path30 path31 path32 path33 path34 path35 path36 path37 path38 path39 path40 path41 path42 path43 path44 path45 path46 path47 path48 path49 path50 path51 path52 path53 path54 path55 path56 path57 path58 path59 path60 path61 path62 path63 path64 path65 path66 path67 path68 path69 path70 path71 path72 path73 path74 path75 path76 path77 path78 path79 path80 path81 path82 path83 path84 path85 path86 path87 path88 path89 path90 path91 path92 path93 path94 path95 path96 path97 path98 path99 path100 path101 path102 path103 path104 path105 path106 path107 path108 path109 path110 path111 path112 path113 path114 path115 path116 path117 path118 path119 path120 path121 path122 path123 path124 path125 path126 path127 path128 path129 path130 path131 path132 path133 path134 path135 path136 path137 path138 path139 path140 path141 path142 path143 path144 path145 path146 path147 path148 path149 path150 path151 path152 path153 path154 path155 path156 path157 path158 path159 path160 path161 path162 path163 path164 path165 path166 path167 path168 path169 path170 path171 path172 path173 path174 path175 path176 path177 path178 path179 path180 path181 path182 path183 path184 path185 path186 path187 path188 path189 path190 path191 path192 path193 path194 path195 path196 path197 path198 path199 path200 path201 path202 path203 path204 path205 path206 path207 path208 path209 path210 path211 path212 path213 path214 path215 path216 path217 path218 path219 path220 path221 path222 path223 path224 path225 path226 path227 path228 path229 path230 path231 path232 path233 path234 path235 path236 path237 path238 path239 path240 path241 path242 path243 path244 path245 path246 path247 path248 path249 path250 path251 path252 path253 path254 path255 path256 path257 path258 path259 path260 path261 path262 path263 path264 path265 path266 path267 path268 path269 path270 path271 path272 path273 path274 path275 path276 path277 path278 path279 path280 path281 path282 path283 path284 path285 path286 path287 path288 path289 path290 path291 path292 path293 path294 path295 path296 path297 path298 path299 path300 path301 path302 path303 path304 path305 path306 path307 path308 path309 path310 path311 path312 path313 path314 path315 path316 path317 path318 path319
end Go.A
